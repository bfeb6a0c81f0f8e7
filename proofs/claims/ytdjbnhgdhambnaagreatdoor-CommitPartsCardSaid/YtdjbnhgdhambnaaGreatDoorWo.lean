/-
  Sameness as equality of normal forms; what is valid stays so (plain).
-/
import Derived.Test.YtdjbnhgdhambnaaGreatDoorWn
set_option maxHeartbeats 16000000
set_option maxRecDepth 100000
set_option linter.unusedVariables false
set_option linter.unusedSimpArgs false
set_option linter.unnecessarySimpa false
namespace Go.bh
open Go Go.Proofs Go.Proofs.Tryz
namespace Op
open ca aN
theorem Ox {a b:Act} (h:dn (e8 a) (e8 b)=true) :a=b:=by
 obtain⟨k,y,g⟩:=a;obtain⟨u,F,j⟩:=b;obtain⟨v,z,C,G⟩:=g;obtain⟨w,B,D,H⟩:=j;simp[e8,dn,U.beq] at h;obtain⟨h1,m,o,p,q,t⟩:=h
 simp_all
theorem Ed {a b:aG}:Op.gR a b=true<->Op.cp a=Op.cp b:=by
 unfold Op.gR Op.cp;simp only[bH,bC];constructor
 ·rintro⟨h1,g,j,m,o,p⟩;obtain⟨q,t,u,v,w,z⟩:=a;obtain⟨B,C,D,F,G,H⟩:=b;simp only at h1 g j m o p;have:=Ox m;subst this;simp[h1,g,j,o,p]
 ·intro h;obtain⟨q,t,u,v,w,z⟩:=a;obtain⟨B,C,D,F,G,H⟩:=b;simp only[aG.mk.injEq,bd] at h;obtain⟨h1,g,j,m,o,p⟩:=h;subst m;refine⟨h1,g,j,?_,o,p⟩;simp[e8,dn,U.beq]
theorem Ai {alZ:Type} {l m:List alZ} (h:cL l=cL m) :l=m:=by
 have:=ch bL.l h
 rwa [dr,dr] at this
theorem CT {alZ o:Type} {f:alZ->o} {l m:List alZ} (p:l.length=m.length) (h:∀ (k:Nat) (x y:alZ),l[k]?=some x->m[k]?=some y->f x=f y) :l.map f=m.map f:=by
 apply g5;intro k;rw[bW,bW];by_cases hk:k<l.length
 ·obtain⟨x,g,_⟩:=aP hk;obtain⟨y,j,_⟩:=aP (l:=m) (k:=k) F;rw[g,j];simp[h k x y g j]
 ·rw[ea F,ea F]
theorem sj {alZ g:Type} {f:alZ->g} {l m:List alZ} (h:l.map f=m.map f) {k:Nat} {x y:alZ} (j:l[k]?=some x) (o:m[k]?=some y) :f x=f y:=by have:=ch (fun p=>p[k]?) h;simp only[bW,j,o,cz,bd] at this;exact this
theorem i9 {alZ g:Type} {f:alZ->g} {l m:List alZ} (h:l.map f=m.map f) :l.length=m.length:=by have:=ch List.length h;simpa using this
theorem zY {a b:aU}:kM a b=true<->di a=di b:=by
 unfold kM;simp only[bH,bC];constructor
 ·rintro⟨h1,o,g⟩;unfold di;rw[h1,CT o fun k x y j m=>?_];have:=g k (aK.1 j).1;rw[jy j,jy m] at this;exact Ed.1 this
 ·intro h;unfold di at h;simp only[aU.mk.injEq,bd] at h;obtain⟨h1,o⟩:=h;have g:=Ai o;refine⟨h1,i9 g,fun k hk=>?_⟩;obtain⟨x,j,_⟩:=aP hk;obtain⟨y,m,_⟩:=aP (l:=b.opsZ.l) (k:=k) (by have:=i9 g;omega);rw[jy j,jy m];exact Ed.2 (sj g j m)
theorem W5 {a b:ck}:h8 a b=true<->Op.ce a=Op.ce b:=by
 rw[ma];unfold Op.ce;constructor
 ·rintro⟨h1,o,p,g⟩;rw[o,p,CT h1 fun k x y j m=>?_];have:=g k (aK.1 j).1;rw[dt j,dt m] at this;exact zY.1 this
 ·intro h;simp only[ck.mk.injEq,bd] at h;obtain⟨h1,o,p⟩:=h;have g:=Ai h1;refine⟨i9 g,p,o,fun k hk=>?_⟩;obtain⟨x,j,_⟩:=aP hk;obtain⟨y,m,_⟩:=aP (l:=b.al.l) (k:=k) (by have:=i9 g;omega);rw[dt j,dt m];exact zY.2 (sj g j m)
theorem q6 {a b:dm}:lw a b=true<->gS a=gS b:=by
 unfold lw;simp only[bH,bC];rw[W5];unfold gS;constructor
 ·rintro⟨h1,g,j⟩;rw[h1,g,j]
 ·intro h;simp only[dm.mk.injEq,bd] at h;exact⟨h.1,h.2.1,h.2.2⟩
theorem Lr {a b:aB}:sH a b=true<->aN.ce a=aN.ce b:=by
 unfold sH;simp only[bH,bC];have e:aN.gR a.op b.op=Op.gR a.op b.op:=rfl;rw[e,Ed];unfold aN.ce;constructor
 ·rintro⟨h1,t,u,v⟩;obtain⟨g,m,j,o⟩:=a;obtain⟨w,p,z,q⟩:=b;simp only at h1 t u v;subst h1 t;show (⟨g,Op.cp m,j,some o.l⟩:aB)=⟨g,Op.cp p,j,some q.l⟩
  rw[u,v]
 ·intro h;obtain⟨g,m,j,o⟩:=a;obtain⟨w,p,z,q⟩:=b;simp only[aB.mk.injEq,bd] at h;exact⟨h.1,h.2.2.1,h.2.1,h.2.2.2⟩
theorem Ls {a b:List aB}:lv a b=true<->a.map aN.ce=b.map aN.ce:=by
 unfold lv;simp only[bH,bC];constructor
 ·rintro⟨h1,m⟩;refine CT h1 fun k x y g j=>?_
  have:=m k (aK.1 g).1;rw[fb g,fb j] at this;exact Lr.1 this
 ·intro h;refine⟨i9 h,fun k hk=>?_⟩;obtain⟨x,g,_⟩:=aP hk;obtain⟨y,j,_⟩:=aP (l:=b) (k:=k) (by have:=i9 h;omega);rw[fb g,fb j];exact Lr.2 (sj h g j)
def sS (q:List B × aG) :List B × aG:=(q.1,Op.cp q.2)
theorem Xa {s t:ck} (h:e1 s) (e:h8 s t=true) :e1 t/\(bD t).map sS=(bD s).map sS/\cY t=cY s:=by
 obtain⟨I,X,Y,Z⟩:=(ma s t).1 e;have W:=rn h;have D:∀ k,k<s.al.l.length->∃ g q,s.al.l[k]?=some g/\t.al.l[k]?=some q/\g∈s.al.l/\q∈t.al.l/\g.idsZ.l=q.idsZ.l/\g.opsZ.l.map Op.cp=q.opsZ.l.map Op.cp:=fun k hk=>by
  obtain⟨g,j,z⟩:=aP hk;obtain⟨q,m,P⟩:=aP (l:=t.al.l) (k:=k) F;have:=Z k hk;rw[dt j,dt m,zY] at this;unfold di at this;simp only[aU.mk.injEq,bd] at this;exact⟨g,q,j,m,z,P,this.1,Ai this.2⟩
 have ao:kH t.al.l=true:=by
  have O:=h.ao;unfold kH at O ⊢;rw[bC] at O ⊢;intro i ak x T;obtain⟨g,q,j,m,_,_,o,_⟩:=D i F;rw[dt m,<-o] at T;rw[<-I];exact O i F x (by rw[dt j];exact T)
 have wf:nO t.al.l=true:=by
  refine jI.2 fun q m=>?_
  obtain⟨k,hk⟩:=cj.1 m;obtain⟨g,ag,j,u,z,_,o,p⟩:=D k (by have:=(aK.1 hk).1;omega);rw[hk] at u;obtain rfl:=cg u;obtain⟨ai,aj⟩:=jI.1 h.wf g z;rw[<-o];exact⟨by rw[ai];exact i9 p,aj⟩
 have G:ng t.al.l:=⟨fun g j=>(jI.1 wf g j).1,fun g j=>(jI.1 wf g j).2,wH ao⟩
 have S:∀ {l:List (List B × aG)},(l.Pairwise fun a b=>eQ a.1 b.1=true)->(l.map sS).Pairwise fun a b=>eQ a.1 b.1=true:=fun ae=>by
  rw[m9];exact ae
 have K:(bD t).map sS=(bD s).map sS:=by
  refine zF (S (xF G)) (S (xF W)) fun q=>?_
  rw[cy,cy];constructor
  ·rintro⟨r,Q,rfl⟩;obtain⟨q,m,a,H,v⟩:=(nP G r).1 Q;obtain⟨k,hk⟩:=cj.1 m;obtain⟨g,ag,j,u,z,_,o,p⟩:=D k (by have:=(aK.1 hk).1;omega);rw[hk] at u;obtain rfl:=cg u;obtain⟨C,w,_⟩:=aP (l:=g.opsZ.l) (k:=a) (by have:=i9 p;have:=(aK.1 v).1;omega);refine⟨(r.1,C),(nP W _).2 ⟨g,z,a,by rw[o];exact H,w⟩,?_⟩;show (r.1,Op.cp C)=(r.1,Op.cp r.2)
   rw[sj p w v]
  ·rintro⟨r,Q,rfl⟩;obtain⟨g,j,a,H,v⟩:=(nP W r).1 Q;obtain⟨k,hk⟩:=cj.1 j;obtain⟨am,q,R,u,_,P,o,p⟩:=D k (aK.1 hk).1;rw[hk] at R;obtain rfl:=cg R;obtain⟨C,w,_⟩:=aP (l:=q.opsZ.l) (k:=a) (by have:=i9 p;have:=(aK.1 v).1;omega);refine⟨(r.1,C),(nP G _).2 ⟨q,P,a,by rw[<-o];exact H,w⟩,?_⟩;show (r.1,Op.cp C)=(r.1,Op.cp r.2)
   rw[sj p v w]
 have J:cY t=cY s:=by
  have U:∀ l:List (List B × aG),di (bG l)=⟨some ((l.map sS).map (·.1)),cL ((l.map sS).map (·.2))⟩:=fun l=>by
   unfold di bG;simp only[dr,iU];rfl
  unfold cY;rw[U,U,K]
 have V:e2 (bG (bD t))=0:=by rw[<-yj,J,yj];exact h.k6
 refine⟨⟨by rw[<-I];exact h.gZ,by rw[<-I];exact h.sm,ao,wf,V,?_,?_⟩,K,J⟩
 ·rw[<-X,h.ke];have:=ch List.length K;simp at this;omega
 ·rw[<-yO,show di (bG (bD t))=cY t from rfl,J,show cY s=di (bG (bD s)) from rfl,yO,h.tY,Y]
theorem Lt {s t:dm} (h:hJ s) (e:lw s t=true) :hJ t/\cY t.aS=cY s.aS:=by unfold lw at e;simp only[bH,bC] at e;obtain⟨g,j,m⟩:=e;obtain⟨q,w,p⟩:=Xa h.aS j;obtain⟨q1,o,u,v⟩:=(ma _ _).1 j;refine⟨⟨by rw[<-g];exact h.jR,by rw[<-g];exact h.tJ,q,by rw[<-o,<-g];exact h.ke,by rw[<-m,<-o];exact h.le,?_⟩,p⟩;rw[<-zy,show di (bG (bD t.aS))=cY t.aS from rfl,p,show cY s.aS=di (bG (bD s.aS)) from rfl,zy,<-m];exact h.ord
open ca aN
structure fD (s t:a6) :Prop where
 aD:gS s.aD=gS t.aD
 bN:s.bN=t.bN
 pl:s.pl.l.map aN.ce=t.pl.l.map aN.ce
 bA:s.bA=t.bA
 dj:s.dj=t.dj
theorem C3 {a b:aG} (h:Op.cp a=Op.cp b) :a.ay.l=b.ay.l/\a.act=b.act/\eA a=eA b/\bE a=bE b/\c3 a=c3 b:=by
 refine⟨?_,?_,?_,?_,?_⟩
 ·have:=ch (fun o:aG=>o.ay.l) h;exact this
 ·have:=ch (fun o:aG=>o.act) h;exact this
 ·rw[<-MP a,h,MP b]
 ·rw[<-Ct a,h,Ct b]
 ·have:∀ o:aG,c3 (Op.cp o)=c3 o:=fun _=>rfl
  rw[<-this a,h,this b]
theorem JB {a b:aG} (h:dz a) (e:Op.cp a=Op.cp b) :dz b:=by obtain⟨g,j,_⟩:=C3 e;refine⟨fun y m=>h.idsZ y (by rw[g];exact m),by rw[<-g];exact h.len,by rw[<-j];exact h.val,by rw[<-j];exact h.key⟩
theorem wF {a b:aB} (h:aN.ce a=aN.ce b) :a.aF=b.aF/\Op.cp a.op=Op.cp b.op/\a.id=b.id/\a.bl.l=b.bl.l:=by unfold aN.ce at h;simp only[aB.mk.injEq,bd] at h;exact h
theorem UB {a b:aB} (h:lJ a) (e:aN.ce a=aN.ce b) :lJ b:=by obtain⟨p,j,m,g⟩:=wF e;exact⟨JB h.op j,by rw[<-m];exact h.id,fun y o=>h.bl y (by rw[g];exact o),by rw[<-g];exact h.len⟩
theorem Jg {l m:List aB} (h:l.map aN.ce=m.map aN.ce) {y:aB} (j:y∈m) :∃ x∈l,aN.ce x=aN.ce y:=by
 have:aN.ce y∈l.map aN.ce:=by rw[h];exact cy.2 ⟨y,j,rfl⟩
 obtain⟨x,g,e⟩:=cy.1 this;exact⟨x,g,e⟩
theorem UD {l m:List aB} (h:gF l) (e:l.map aN.ce=m.map aN.ce) :gF m:=fun y o=>by
 obtain⟨x,j,g⟩:=Jg e o;exact UB (h x j) g
theorem UA {s t:ck} (h:g9 s) (e:h8 s t=true) :g9 t:=by
 obtain⟨D,O,p,F⟩:=(ma s t).1 e;refine⟨fun q J=>?_,by rw[<-D];exact h.ln,fun y o=>h.cb y (by rw[p];exact o),by rw[<-p];exact h.pI⟩;obtain⟨k,hk⟩:=cj.1 J;obtain⟨z,v,I⟩:=aP (l:=s.al.l) (k:=k) (by have:=(aK.1 hk).1;omega);have:=F k (aK.1 v).1;rw[dt v,dt hk,zY] at this;unfold di at this;simp only[aU.mk.injEq,bd] at this;obtain⟨m,j⟩:=this;have j:=Ai j;obtain⟨g,B,C⟩:=h.al z I;have u:=i9 j;refine⟨⟨fun y o=>g.idsZ y (by rw[m];exact o),fun w H=>?_,by rw[<-m];exact g.li,by rw[<-u];exact g.ju⟩,by rw[<-m];exact B,by rw[<-u];exact C⟩;have:Op.cp w∈z.opsZ.l.map Op.cp:=by rw[j];exact cy.2 ⟨w,H,rfl⟩
 obtain⟨x,K,G⟩:=cy.1 this;exact JB (g.opsZ x K) G
theorem UE {s t:dm} (h:kZ s) (e:gS s=gS t) :kZ t:=by have g:=q6.2 e;unfold lw at g;simp only[bH,bC] at g;obtain⟨p,m,j⟩:=g;exact⟨UA h.aS m,fun y o=>h.aJ y (by rw[j];exact o),by rw[<-j];exact h.no⟩
theorem wG {s t:dm} (e:gS s=gS t) :s.cap=t.cap/\s.aJ.l=t.aJ.l:=by unfold gS at e;simp only[dm.mk.injEq,bd] at e;exact⟨e.1,e.2.2⟩
theorem uB {s t:a6} (h:dH s) (e:fD s t) :dH t:=
 ⟨UE h.aD e.aD,UD h.pl e.pl,by rw[<-i9 e.pl];exact h.len⟩
theorem U5 {c:Int} {l m:List aB} (e:l.map aN.ce=m.map aN.ce) :cU c l=cU c m:=by rw[<-JY,e,JY]
theorem RN {s t:a6} (e:fD s t) (P:Int->Prop) (h:∀ x∈s.pl.l,P x.aF/\eA x.op=0/\x.id∉s.aD.aJ.l/\x.bl.l=dA s.aD.aJ.l x.op) :∀ x∈t.pl.l,P x.aF/\eA x.op=0/\x.id∉t.aD.aJ.l/\x.bl.l=dA t.aD.aJ.l x.op:=fun y B=>by
 obtain⟨x,z,q⟩:=Jg e.pl B;obtain⟨j,m,o,p⟩:=wF q;obtain⟨C,F,D,G,H⟩:=C3 m;obtain⟨h1,u,v,w⟩:=h x z;have g:=(wG e.aD).2;refine⟨by rw[<-j];exact h1,by rw[<-D];exact u,by rw[<-o,<-g];exact v,?_⟩;rw[<-p,w,g];unfold dA;rw[C]
theorem xk {s t:a6} (h:hs s) (e:fD s t) :hs t:=by refine⟨(Lt h.st (q6.2 e.aD)).1,by rw[<-e.bN,<-U5 e.pl];exact h.pen,by rw[<-e.bA];exact h.gQ,by rw[<-e.bA];exact h.gZ,?_⟩;rw[<-e.bA];exact RN e (fun k=>k<s.bA) h.kB
theorem fD.symm {s t:a6} (e:fD s t) :fD t s:=⟨e.aD.symm,e.bN.symm,e.pl.symm,e.bA.symm,e.dj.symm⟩
theorem fD.trans {s t w:a6} (e:fD s t) (f:fD t w) :fD s w:=⟨e.aD.trans f.aD,e.bN.trans f.bN,e.pl.trans f.pl,e.bA.trans f.bA,e.dj.trans f.dj⟩
theorem fD.refl (s:a6) :fD s s:=⟨rfl,rfl,rfl,rfl,rfl⟩
theorem XY {s t:a6} (e:fD s t) :fl s=fl t:=by
 by_cases h:hs s
 ·rw[(iR s).2 h,(iR t).2 (xk h e)]
 ·rw[Af h,Af fun g=>h (xk g e.symm)]
theorem Ju {s t:a6} (e:fD s t) (j:b7) :dh s j=dh t j:=by unfold dh;rw[XY e,e.bA]
theorem TU {l m:List aB} (e:l.map aN.ce=m.map aN.ce) :l.map aB.id=m.map aB.id:=by
 have:∀ k:List aB,k.map aB.id=(k.map aN.ce).map aB.id:=fun k=>by rw[iU];rfl
 rw[this l,e,<-this m]
theorem YX {s t:a6} (e:fD s t) (j:b7) :ef s j=ef t j:=by obtain⟨h1,g⟩:=wG e.aD;unfold ef;rw[e.dj,g,TU e.pl,h1,i9 e.pl,e.bN]
open ca aN
def oy (l:List aB) :Nat->Nat
 | 0=>0
 | k+1=>if (ft l (k+1)).aF<(ft l (oy l k)).aF then k+1 else oy l k
theorem Is (l:List aB) :∀ k,oy l k<=k
 | 0=>aI _
 | k+1=>by
  unfold oy;split
  ·exact aI _
  ·have:=Is l k;omega
theorem wm (l:List aB) :∀ k,ft l (oy l k)=iN l k
 | 0=>rfl
 | k+1=>by
  unfold oy iN;rw[wm l k];split
  ·rfl
  ·exact wm l k
def oG (r:List aB) :Nat:=oy r (r.length - 1)
def oM (r:List aB) :List aB:=r.take (oG r)++r.drop (oG r+1)
theorem IL {r:List aB} (h:r≠[]) :oG r<r.length:=by have:=Is r (r.length - 1);have:=td.2 h;unfold oG;omega
theorem S6 {r:List aB} (h:r≠[]) :r[oG r]?=some (de r):=by obtain⟨x,g,_⟩:=aP (IL h);have:ft r (oG r)=de r:=wm _ _;rw[fb g] at this;rw[g,this]
noncomputable def GQ (s:a6) (x:aB) :a6:=⟨zK s.aD x.op,s.bN,dZ (aN.zk x.id s.pl.l),s.bA,s.dj⟩
noncomputable def mW:Nat->a6->List aB->List c7->a6 × List c7
 | 0,s,_,out=>(s,out)
 | n+1,s,r,out=>
  if r=[] then (s,out)
  else if hP s then mW n s (oM r) (out++[⟨(de r).aF,8,(de r).id⟩])
  else mW n (GQ s (de r)) (oM r++aN.yI (de r).id s.pl.l) (out++[⟨(de r).aF,1,(de r).id⟩])
theorem Wv (n:Nat) (s:a6) (out:List c7) :mW n s [] out=(s,out):=by
 cases n with
 | zero=>rfl
 | succ n=>unfold mW;rw[aj rfl]
theorem Wu (n:Nat) (s:a6) {r:List aB} (out:List c7) (h:r≠[]) :mW (n+1) s r out=if hP s then mW n s (oM r) (out++[⟨(de r).aF,8,(de r).id⟩])
  else mW n (GQ s (de r)) (oM r++aN.yI (de r).id s.pl.l) (out++[⟨(de r).aF,1,(de r).id⟩]):=by
 conv=>lhs;unfold mW
 rw[ak h]
structure qp (s:a6) (r:List aB) :Prop where
 D1:r.Pairwise fun a b=>a.aF≠b.aF
 pp:s.pl.l.Pairwise fun a b=>a.aF≠b.aF
 D0:∀ x∈r,∀ y∈s.pl.l,x.aF≠y.aF
theorem qp.full {s:a6} {r:List aB} (h:qp s r) (x:aB) :qp s (g1 r x):=
 ⟨h.D1.sublist ki,h.pp,fun y g=>h.D0 y (dy.1 g).1⟩
theorem qp.next {s:a6} {r:List aB} (h:qp s r) (x:aB) :qp (gk s x) (g1 r x++aN.cM x.id s.pl.l):=by
 have p:(s.pl.l.map (er x.id)).Pairwise fun a b=>a.aF≠b.aF:=by
  rw[m9];exact h.pp
 have t:=vN s x;refine⟨?_,by rw[t];exact p.sublist ki,fun a g v j=>?_⟩
 ·rw[rz];refine⟨h.D1.sublist ki,p.sublist ki,fun a g b u=>?_⟩;obtain⟨y,o,rfl⟩:=cy.1 (dy.1 u).1;exact h.D0 a (dy.1 g).1 y o
 ·rw[t] at j;rcases fm.1 g with g | g
  ·obtain⟨y,o,rfl⟩:=cy.1 (dy.1 j).1;exact h.D0 a (dy.1 g).1 y o
  ·intro e;obtain⟨i,m⟩:=cj.1 (dy.1 g).1;obtain⟨k,hk⟩:=cj.1 (dy.1 j).1;have:=Dj (f:=aB.aF) p m hk e;rw[this,hk] at m;obtain rfl:=cg m;have h1:=(dy.1 g).2;have q:=(dy.1 j).2;rw[h1] at q;cases q
theorem WB {r:List aB} (h:r.Pairwise fun a b=>a.aF≠b.aF) (p:r≠[]) :g1 r (de r)=oM r:=by
 have m:=S6 p;have w:=IL p;obtain⟨x,q⟩:=ao (de r);obtain⟨i,g⟩:=ao (oG r);unfold oM g1;rw[<-q,<-g] at m;rw[<-g] at w;rw[<-q,<-g];have e:r=r.take i++x::r.drop (i+1):=by
  obtain⟨t,u⟩:=aK.1 m;have:=iV i r;rw[ml t,u] at this;exact this.symm
 have o:=h;rw[e,rz,AW] at o;obtain⟨C,⟨z,D⟩,B⟩:=o
 conv=>lhs;rw[e]
 rw[lF,rx];have h1:(r.take i).filter (fun y=>!decide (y.aF=x.aF))=r.take i:=ry.2 fun y j=>by
  have:=B y j x V;simp[this]
 have v:(r.drop (i+1)).filter (fun y=>!decide (y.aF=x.aF))=r.drop (i+1):=ry.2 fun y j=>by
  have:=z y j;simp[show ¬ y.aF=x.aF from fun e=>this e.symm]
 rw[h1,v];simp
theorem I9 {r q:List aB} (e:r.map aN.ce=q.map aN.ce) :∀ k,k<r.length->oy r k=oy q k/\aN.ce (iN r k)=aN.ce (iN q k)
 | 0,h=>by
  obtain⟨x,g,_⟩:=aP h;obtain⟨y,j,_⟩:=aP (l:=q) (k:=0) (by have:=i9 e;omega);refine⟨rfl,?_⟩;unfold iN;rw[fb g,fb j];exact sj e g j
 | k+1,h=>by
  obtain⟨h1,o⟩:=I9 e k F;obtain⟨x,g,_⟩:=aP h;obtain⟨y,j,_⟩:=aP (l:=q) (k:=k+1) (by have:=i9 e;omega);have m:=sj e g j;have p:=(wF m).1;have em:=(wF o).1;unfold oy iN;rw[fb g,fb j,wm,wm,p,em,h1];split
  ·exact⟨rfl,m⟩
  ·exact⟨rfl,o⟩
theorem HQ {r q:List aB} (e:r.map aN.ce=q.map aN.ce) (h:r≠[]) :oG r=oG q/\aN.ce (de r)=aN.ce (de q):=by have g:=i9 e;unfold oG de;rw[<-g];exact I9 e _ (by have:=td.2 h;omega)
theorem WA {r q:List aB} (e:r.map aN.ce=q.map aN.ce) (h:r≠[]) :(oM r).map aN.ce=(oM q).map aN.ce:=by unfold oM;rw[(HQ e h).1,c5,c5,jh,oZ,jh,oZ,e]
def Ah (x:List B) (s:aB) :aB:=⟨s.aF,s.op,s.id,some (s.bl.l.filter (j2 x))⟩
theorem Yr (x:List B) (s:aB) :aN.ce (er x s)=Ah x (aN.ce s):=by
 show (⟨s.aF,aN.cp s.op,s.id,some (lz x s.bl).l⟩:aB)=⟨s.aF,aN.cp s.op,s.id,some (s.bl.l.filter (j2 x))⟩
 rw[uV]
theorem Yq (x:List B) (s:aB) :aN.ce (xr x s)=Ah x (aN.ce s):=by
 show (⟨s.aF,aN.cp (aN.cp s.op),s.id,some (fy (s.bl.l.filter (j2 x))).l⟩:aB)=⟨s.aF,aN.cp s.op,s.id,some (s.bl.l.filter (j2 x))⟩
 rw[m0];rfl
theorem yD {p:aB->Bool} (g:∀ s,p (aN.ce s)=p s) (l:List aB) :(l.filter p).map aN.ce=(l.map aN.ce).filter p:=by rw[List.filter_map];congr 1;exact Fe fun s _=>(g s).symm
theorem L6 {x:List B} {l m:List aB} (e:l.map aN.ce=m.map aN.ce) :(l.map (er x)).map aN.ce=(m.map (xr x)).map aN.ce:=by
 have h1:∀ l:List aB,(l.map (er x)).map aN.ce=(l.map aN.ce).map (Ah x):=fun l=>by
  rw[iU,iU];exact mm fun s _=>Yr x s
 have g:∀ l:List aB,(l.map (xr x)).map aN.ce=(l.map aN.ce).map (Ah x):=fun l=>by
  rw[iU,iU];exact mm fun s _=>Yq x s
 rw[h1,g,e]
theorem TS {x:List B} {l m:List aB} (e:l.map aN.ce=m.map aN.ce) :(aN.cK x l).map aN.ce=(aN.zk x m).map aN.ce:=by unfold aN.cK aN.zk;rw[yD (fun s=>rfl),yD (fun s=>rfl),L6 e]
theorem Rr {x:List B} {l m:List aB} (e:l.map aN.ce=m.map aN.ce) :(aN.cM x l).map aN.ce=(aN.yI x m).map aN.ce:=by unfold aN.cM aN.yI;rw[yD (fun s=>rfl),yD (fun s=>rfl),L6 e]
theorem Vp {g:aU} {x:List B} {a b:aG} (e:Op.cp a=Op.cp b) :pR g x a=pR g x b:=by unfold pR di;simp only[bL.kE];congr 2;unfold c2;simp only[c5,df,e]
theorem Up {s t:dm} (h:hJ s) {a b:aG} (u:eA a=0) (q:lj s a=1) (e:gS s=gS t) (p:Op.cp a=Op.cp b) :gS (nC s (bE a) a)=gS (zK t b):=by
 obtain⟨C,P,D,j,Q⟩:=C3 p;obtain⟨H,I⟩:=Lt h (q6.2 e);obtain⟨m,o⟩:=wG e;have g:=q6.2 e;unfold lw at g;simp only[bH,bC] at g;obtain⟨F,G,R,S⟩:=(ma _ _).1 g.2.1;have v:lj t b=1:=by
  have:lj t b=lj s a:=by
   unfold lj;rw[<-j,<-C,<-o,<-m,<-G]
  rw[this];exact q
 have w:C8 t b=0:=by unfold C8;rw[aj ((xo t).2 H),<-D];exact u
 have z:zK t b=Jw t b:=by
  unfold zK;rw[aj w];unfold Jv;rw[aj v]
 obtain⟨J,K,O⟩:=Iy h q;obtain⟨_,B⟩:=Vs h.aS J O u rfl K;rw[z];refine q6.1 ?_;unfold lw;simp only[bH,bC];refine⟨m,?_,?_⟩
 ·show h8 (fx s.aS (bE a) a) (jw (pR (cY t.aS) (bE b) b) t.aS.al.l.length)=true;rw[I,<-j,<-Vp p,<-F];exact B
 ·show s.aJ.l++[bE a]=t.aJ.l++[bE b]
  rw[o,j]
theorem DS:∀ (n:Nat) (s t:a6) (r q:List aB) (out:List c7),jj s r->qp s r->fD s t->r.map aN.ce=q.map aN.ce->fD (fI n s r out).1 (mW n t q out).1/\(fI n s r out).2=(mW n t q out).2
 | 0,s,t,r,q,out,h,o,e,j=>⟨e,rfl⟩
 | n+1,s,t,r,q,out,h,o,e,j=>by
  by_cases g:r=[]
  ·subst g;have m:q=[]:=by have:=i9 j;exact ic.1 this.symm
   subst m;rw[sB,Wv];exact⟨e,rfl⟩
  ·have m:q≠[]:=fun m=>by
    have:=i9 j;rw[m] at this;exact g (ic.1 this)
   rw[pS n s out g,Wu n t out m];obtain⟨_,F⟩:=HQ j g;obtain⟨C,D,u,H⟩:=wF F;have G:hP s=hP t:=by
    obtain⟨z,B⟩:=wG e.aD;unfold hP;rw[z,B]
   have w:(g1 r (de r)).map aN.ce=(oM q).map aN.ce:=by rw[WB o.D1 g];exact WA j g
   rw[<-G,<-C,<-u];cases v:hP s with
   | true=>
    rw[aj rfl,aj rfl];exact DS n s t _ _ _ (h.full _) (o.full _) e w
   | false=>
    rw[ak V,ak V];have p:=v2 g;refine DS n _ _ _ _ _ (h.next p v) (o.next _) ⟨?_,e.bN,?_,e.bA,e.dj⟩ ?_
    ·exact Up h.st (h.gr _ p).1 (h.y0 p v) e.aD D
    ·show (dZ (aN.cK (de r).id s.pl.l)).l.map _=(dZ (aN.zk (de q).id t.pl.l)).l.map _;rw[gJ,gJ,<-u];exact TS e.pl
    ·rw[c5,c5,w,Rr e.pl]
open ca aN
def Aq (s:a6) :a6:=⟨gS s.aD,s.bN,dZ (s.pl.l.map aN.ce),s.bA+1,s.dj⟩
def Vq (s:a6) (j:b7) :a6:=⟨gS s.aD,s.bN,some ((s.pl.l.map aN.ce).map aN.ce++[aN.ce ⟨j.aF,j.op,bE j.op,fy (dA s.aD.aJ.l j.op)⟩]),s.bA+1,s.dj⟩
noncomputable def uz (s:a6) (j:b7) :a6 × List c7:=
 if ef s j=6 then (Vq s j,[⟨j.aF,6,j.id⟩])
 else if ef s j=1 then mW (1+s.pl.l.length) (Aq s) [go j] []
 else (Aq s,[⟨j.aF,ef s j,j.id⟩])
theorem Mu (s:dm) :gS (gS s)=gS s:=(q6.1 (W8 s)).symm
theorem CU (l:List aB) :(l.map aN.ce).map aN.ce=l.map aN.ce:=by rw[iU];exact mm fun s _=>rfl
theorem Jh (s:a6) :fD (eM s) (Aq s):=by refine⟨(Mu s.aD).symm,rfl,?_,rfl,rfl⟩;show (dZ s.pl.l).l.map _=(dZ (s.pl.l.map aN.ce)).l.map _;rw[gJ,gJ,CU]
theorem Ji {s t:a6} (e:fD s t) :fD (eM s) (eM t):=by refine⟨e.aD,e.bN,?_,by show s.bA+1=t.bA+1;rw[e.bA],e.dj⟩;show (dZ s.pl.l).l.map _=(dZ t.pl.l).l.map _;rw[gJ,gJ,e.pl]
theorem pH (s:a6) :fD s (dP s):=by refine⟨rfl,rfl,?_,rfl,rfl⟩;show s.pl.l.map _=(dZ s.pl.l).l.map _;rw[gJ]
theorem w8:∀ (n:Nat) (s:a6) (r:List aB) (out:List c7),fI n s r out=((fI n s r []).1,out++(fI n s r []).2)
 | 0,s,r,out=>by show (s,out)=(s,out++[]);rw[eT]
 | n+1,s,r,out=>by
  by_cases h:r=[]
  ·subst h;rw[sB,sB];simp
  ·rw[pS n s out h,pS n s [] h];split
   ·rw[w8 n _ _ (out++_),w8 n _ _ ([]++_)];simp
   ·rw[w8 n _ _ (out++_),w8 n _ _ ([]++_)];simp
theorem Uo {s:a6} {j:b7} (h:fi j=true) (h1:ef s j=1) :cl s j=fI (1+s.pl.l.length) (eM s) [go j] []:=by
 have m:=Cg (s:=s) h h1;have e:g1 [go j] (go j)=[]:=by unfold g1;simp
 have g:de [go j]=go j:=rfl;have o:(eM s).pl.l=s.pl.l:=gJ _;rw[rB,pS _ _ _ V,m,ak V,g,e,iD,o,w8];unfold cl gu;rw[ak (by rw[h1];decide),aj h1];rfl
theorem Yi {s:a6} (g:hs s) {j:b7} (u:j.aF=s.bA) :qp (eM s) [go j]:=by have m:(eM s).pl.l=s.pl.l:=gJ _;obtain⟨z,t⟩:=oK g.pen;obtain⟨v,q,w⟩:=(pr s.pl.l).1 t;refine⟨V,by rw[m];exact q.imp fun h e=>F,fun x p y o=>?_⟩;rw[fB.1 p];rw[m] at o;have:=(g.kB y o).1;show j.aF≠y.aF;omega
theorem JA {s t:a6} (z:dH s) {j:b7} (v:fv j) (u:dh s j=0) (e:fD s t) :fD (cl s j).1 (uz t j).1/\(cl s j).2=(uz t j).2:=by
 obtain⟨m,o,p,B⟩:=wM u;have g:=YX e j;obtain⟨_,w⟩:=wG e.aD;by_cases h:ef s j=6
 ·unfold cl uz;rw[aj h,aj (by rw[<-g];exact h)];refine⟨⟨?_,e.bN,?_,by show s.bA+1=t.bA+1;rw[e.bA],e.dj⟩,rfl⟩
  ·show gS s.aD=gS (gS t.aD);rw[Mu,e.aD]
  ·show (s.pl.l++[_]).map _=((t.pl.l.map aN.ce).map aN.ce++[_]).map _;rw[c5,c5,CU,CU,e.pl,w];rfl
 ·by_cases h1:ef s j=1
  ·have q:uz t j=mW (1+t.pl.l.length) (Aq t) [go j] []:=by
    unfold uz;rw[ak (by rw[<-g,h1];decide),aj (by rw[<-g];exact h1)]
   rw[Uo o h1,q,i9 e.pl];exact DS _ _ _ _ _ _ (DV z m v o p h1) (Yi m p) ((Ji e).trans (Jh t)) rfl
  ·unfold cl uz;rw[ak h,ak h1,ak (by rw[<-g];exact h),ak (by rw[<-g];exact h1),<-g];exact⟨(Ji e).trans (Jh t),rfl⟩
open ca aN
structure tw (s:a6) :Prop where
 aD:FK s.aD
 pl:∀ t∈s.pl.l,vx t
theorem Yw {ts:List aC} {cs:ag} (h:i3 prog (32::ts) cs) :∃ (s:a6) (cs' : ag),cs=.ah (bp s) ::cs'/\tw s/\i3 prog ts cs':=by
 obtain⟨c,cs',rfl,h1,B⟩:=EN h;obtain⟨cs,rfl,g⟩:=Yx bg h1;have j:=nL (fs:=[27,30,3,4]) bg g;have j:=nL (fs:=[3,25,23]) bg j;obtain⟨n,_,rfl,_,_,C⟩:=m4 (k:=.i64) bg j;have D:=nL (fs:=[22,23,3]) bg C;obtain⟨S,_,rfl,_,O,F⟩:=xw (e:=70) (z:=2) (enc:=bf) (Q:=x5) bg bg (fun r m=>by
  obtain⟨x,_,rfl,o,g⟩:=YB m;rw[sT g,eT];exact⟨x,rfl,o⟩) D
 obtain⟨i,_,rfl,I,G⟩:=xv F;obtain⟨T,_,rfl,_,_,H⟩:=m4 (k:=.i64) bg G;obtain⟨R,_,rfl,K,p⟩:=xv H;have q:=nL (fs:=[3,28]) bg p;obtain⟨c,_,rfl,_,_,t⟩:=m4 (k:=.i64) bg q;obtain⟨l,_,rfl,_,J,u⟩:=xw (e:=94) (z:=45) (enc:=aZ) (Q:=vx) bg bg (fun r m=>by
  obtain⟨x,_,rfl,o,g⟩:=YD m;rw[sT g,eT];exact⟨x,rfl,o⟩) t
 obtain⟨P,_,rfl,_,_,v⟩:=m4 (k:=.i64) bg u;obtain⟨b,_,rfl,w⟩:=YA bg v;rw[sT w];exact⟨⟨⟨n,⟨S,i,T⟩,R⟩,c,l,P,b⟩,cs',rfl,⟨⟨O,I,K⟩,J⟩,B⟩
structure qq (j:b7) :Prop where
 op:vw j.op
 id:j.id.length=32
theorem YC {ts:List aC} {cs:ag} (h:c0 prog (59::ts) cs) :∃ (j:b7) (cs' : ag),cs=dN j++cs'/\qq j/\c0 prog ts cs':=by have h1:=nL (fs:=[3,5,55,57]) bg h;obtain⟨n,_,rfl,_,_,g⟩:=m4 (k:=.i64) bg h1;obtain⟨v,_,rfl,p⟩:=ER g;obtain⟨u,_,rfl,q,m⟩:=EP p;obtain⟨x,cs',rfl,t,o⟩:=EO m;exact⟨⟨n,v,u,x⟩,cs',by simp[dN,ar],⟨q,t⟩,o⟩
theorem Yu {ts:List aC} {cs:ag} (h:i3 prog (33::ts) cs) :∃ (s:bL b7) (cs' : ag),cs=hc s::cs'/\(∀ t∈s.l,qq t)/\i3 prog ts cs':=by
 obtain⟨c,cs',rfl,h1,m⟩:=EN h;obtain⟨s,v,g,_,p,j⟩:=xw (e:=59) (z:=45) (enc:=dN) (Q:=qq) bg bg (fun r q=>by
  obtain⟨x,_,rfl,u,j⟩:=YC q;rw[sT j,eT];exact⟨x,rfl,u⟩) (Mx bg h1)
 have o:=sT j;rw[o] at g;injection g with g _
 exact⟨s,cs',by rw[g];rfl,p,m⟩
theorem Ux {j:b7} (h:qq j) (g:lZ j.op=false) :fv j:=by unfold lZ at g;simp only[qa,decide_eq_false_iff_not] at g;exact⟨⟨h.op.idsZ,F,⟨h.op.gZ,h.op.qR,F⟩,F⟩,h.id⟩
def zZ (a b:a6) :Bool:=lw a.aD b.aD&&((decide (a.bN=b.bN)&&lv a.pl.l b.pl.l)&&(decide (a.bA=b.bA)&&decide (a.dj=b.dj)))
theorem W7 {a b:a6}:zZ a b=true<->fD a b:=by unfold zZ;simp only[bH,bC];rw[q6,Ls];exact⟨fun ⟨h1,⟨g,h⟩,j,m⟩=>⟨h1,g,h,j,m⟩,fun ⟨h1,g,h,j,m⟩=>⟨h1,⟨g,h⟩,j,m⟩⟩
theorem Qg (a b:a6) (g:dH a) (m:dH b) :aY 14 [.ah (bp a),.ah (bp b)] (.bool (zZ a b)):=by
 apply bc func14 [];have J:=KA a.aD b.aD g.aD.aS.w m.aD.aS.w g.aD.aJ m.aD.aJ (by have:=g.aD.no;omega);have I:=Ky a.bN b.bN a.pl b.pl g.pl m.pl (by have:=g.len;omega);have o:=hR a;have p:=hR b;have C:=k7 a.aD;have D:=k7 b.aD;have G:aq (bS a.bN a.pl)=true:=by simp[bS,aq,U.aw,hx]
 have H:aq (bS b.bN b.pl)=true:=by simp[bS,aq,U.aw,hx]
 have F:zZ a b=(lw a.aD b.aD&&((decide (a.bN=b.bN)&&lv a.pl.l b.pl.l)&&(decide (a.bA=b.bA)&&decide (a.dj=b.dj)))):=rfl;obtain⟨T,v⟩:=ao (bp a);obtain⟨V,z⟩:=ao (bp b);rw[<-v] at o ⊢;rw[<-z] at p ⊢;obtain⟨h,X,P,O,aj,ap,ai,ag,Z,al,ak,ar,t,K,ae,am,Y⟩:=o;obtain⟨j,au,S,R,aC,aK,aB,aA,ay,aG,aF,aL,u,Q,az,aH,ax⟩:=p;simp[h,P,j,S];refine av J (by simp[aq,U.aw,C,D]) ?_;rw[F];cases h1:lw a.aD b.aD with
 | false=>
  simp;exact aE
 | true=>
  simp[h,O,j,R];refine av I (by simp[aq,U.aw,G,H]) ?_;cases W:(decide (a.bN=b.bN)&&lv a.pl.l b.pl.l) with
  | false=>
   simp;exact aE
  | true=>
   by_cases q:a.bA=b.bA
   ·have B:∀ x y:Bool,eb prog .eql 4 (.bool x) (.bool y)=some (.bool (decide (x=y))):=by
     intro x y;cases x<;>cases y<;>kernel_rfl
    simp[h,t,j,u,q,K,Q,B];exact aE
   ·simp[h,t,j,u,q];exact aE
open ca aN
def r7 (s:a6) :Bool:=r8 s.aD||nx s.pl.l
theorem P9 (s:a6) (u:tw s) :aY 9 [.ah (bp s)] (.bool (r7 s)):=by
 apply bc func9 [];have q:=VH s.aD;have t:=VQ s.bN s.pl u.pl;have g:=hR s;have o:=k7 s.aD;have m:aq (bS s.bN s.pl)=true:=by simp[bS,aq,U.aw,hx]
 have p:r7 s=(r8 s.aD||nx s.pl.l):=rfl;obtain⟨z,j⟩:=ao (bp s);rw[<-j] at g ⊢;obtain⟨h,B,w,v,_⟩:=g;simp[h,w];refine av q (by simp[aq,U.aw,o]) ?_;rw[p];cases h1:r8 s.aD with
 | true=>
  simp;exact aE
 | false=>
  simp[h,v];refine av t (by simp[aq,U.aw,m]) ?_;simp;exact aE
theorem JC {s:a6} (h:tw s) (g:r7 s=false) :dH s:=by unfold r7 at g;rw[qa] at g;obtain⟨h1,o⟩:=UY g.2;exact⟨UF h.aD g.1,fun m j=>UC (h.pl m j) (o m j),F⟩
def oF (l:List b7) :Bool:=decide (∃ g∈l.take 71,lZ g.op=true)||(decide (12<l.length/\l.length<=60)||decide (70<l.length))
structure ND (s:bL b7) (k:Nat) (sgZ:aR) (l:ae) :Prop where
 ov:l=[]
 lf:sgZ 0=hc s
 jq:sgZ 3=.i6 k
 jX:∀ (j:Nat) (t:b7),j<k->s.l[j]?=some t->lZ t.op=false
theorem Qc (s:bL b7) (X:∀ t∈s.l,qq t) :aY 10 [hc s] (.bool (oF s.l)):=by
 apply bc func10 [];have q:bx (.ad 45) (hc s)=_:=cd _;simp;refine bz (min s.l.length 71) (ND s) ?_ ⟨rfl,V,V,fun g t h=>F⟩;rintro k Z l hk ⟨rfl,C,D,z⟩;obtain⟨Z,rfl⟩:=kb C D;clear C D;have done:∀ (H:∀ (g:Nat) (t:b7),g<min s.l.length 71->s.l[g]?=some t->lZ t.op=false),oF s.l=(decide (12<s.l.length/\s.l.length<=60)||decide (70<s.l.length)):=fun H=>by
  unfold oF;rw[cC,AJ];rintro⟨t,j,K⟩;obtain⟨g,p⟩:=cj.1 j;have W:=(aK.1 p).1;rw[cO] at W;rw[dU F] at p;rw[H g t F p] at K;cases K
 by_cases h:k<s.l.length
 ·have h' : (k:Int)<(s.l.length:Int):=F;by_cases ai:k<=70
  ·have v:(k:Int)<=70:=F;obtain⟨y,B,Y⟩:=aP (l:=s.l) (k:=k) h;have G:(dN y).length=45:=by unfold dN au;simp[bu (X y Y).id]
   have w:((dN y).drop 2).take 11=au y.op:=by unfold dN au;simp
   have J:bO (.ad 45) (hc s) _=_:=dg B;have Q:=cq (k:=k) F;have P:=Kx y.op;have I:=dV y.op;obtain⟨ag,S⟩:=ao (dN y);obtain⟨ae,R⟩:=ao (au y.op);rw[<-S] at G J w;rw[<-R] at w P I;simp[q,h',v,J,G,w];refine av P (by simp[aq,U.aw,I]) ?_;cases O:lZ y.op with
   | true=>
    have T:oF s.l=true:=by
     unfold oF;rw[bY (⟨y,cj.2 ⟨k,by rw[dU F];exact B⟩,O⟩:∃ t∈s.l.take 71,lZ t.op=true)];rfl
    rw[T];simp;exact aE
   | false=>
    simp[Q];refine⟨F,rfl,V,V,fun g t p j=>?_⟩;by_cases e:g=k
    ·subst e;rw[B] at j;obtain rfl:=cg j;exact O
    ·exact z g t F j
  ·have v:¬ (k:Int)<=70:=F;rw[done fun g t p j=>z g t F j];have m:(12:Int)<(s.l.length:Int):=F;have u:¬ (s.l.length:Int)<=60:=F;have o:(70:Int)<(s.l.length:Int):=F;simp[q,h',v,m,u,o];exact aT (by rw[bY (show 70<s.l.length by omega),Bool.or_true]) rfl
 ·have h' : ¬ (k:Int)<(s.l.length:Int):=F;rw[done fun g t p j=>z g t F j];by_cases m:(12:Int)<(s.l.length:Int)
  ·by_cases u:(s.l.length:Int)<=60
   ·simp[q,h',m,u];exact aT (by rw[bY (show 12<s.l.length by omega),bY (show s.l.length<=60 by omega)];rfl) rfl
   ·by_cases o:(70:Int)<(s.l.length:Int)
    ·simp[q,h',m,u,o];exact aT (by rw[bY (show 70<s.l.length by omega),Bool.or_true]) rfl
    ·simp[q,h',m,u,o];exact aT (by simp[show ¬ s.l.length<=60 by omega,show ¬ 70<s.l.length by omega]) rfl
  ·have o:¬ (70:Int)<(s.l.length:Int):=F;simp[q,h',m,o];exact aT (by simp[show ¬ 12<s.l.length by omega,show ¬ 70<s.l.length by omega]) rfl
theorem S1 {l:List b7} (h:oF l=false) :l.length<=70/\∀ j∈l,lZ j.op=false:=by unfold oF at h;rw[qa,qa,decide_eq_false_iff_not,decide_eq_false_iff_not,decide_eq_false_iff_not] at h;refine⟨F,fun j m=>?_⟩;rw[aL F] at h;exact p9.2 fun g=>h.1 ⟨j,m,g⟩
theorem IG:mO prog 20 86=some (.i .i64::.i .u8::List.replicate 32 (.i .u8)):=bg
theorem WQ {a b:c7} (g:a.id.length=32) (h:b.id.length=32) :eb prog .neq 86 (.ah (cP a)) (.ah (cP b))=some (.bool (!(decide (a.aF=b.aF)&&(decide (a.cN=b.cN)&&decide (a.id=b.id))))):=by
 have m:gE (.i .i64::.i .u8::List.replicate 32 (.i .u8)) (cP a)=true:=by
  have:=qV a.id;rw[g] at this;exact this
 have o:gE (.i .i64::.i .u8::List.replicate 32 (.i .u8)) (cP b)=true:=by
  have:=qV b.id;rw[h] at this;exact this
 rw[Br IG bg bg m o];have j:=vC a.id b.id F;have:dn (cP a) (cP b)=(decide (a.aF=b.aF)&&(decide (a.cN=b.cN)&&dn (ar a.id) (ar b.id))):=by
  simp[cP,dn,U.beq]
 rw[this];unfold ar;rw[j]
instance aax:DecidableEq c7:=fun a b=>decidable_of_iff (a.aF=b.aF/\a.cN=b.cN/\a.id=b.id) ⟨fun ⟨h1,g,j⟩=>by cases a;cases b;simp_all,fun h=>by subst h;exact⟨rfl,rfl,rfl⟩⟩
theorem WR (a b:c7) :(decide (a.aF=b.aF)&&(decide (a.cN=b.cN)&&decide (a.id=b.id)))=decide (a=b):=by rw[xL];simp only[bH,bC];exact⟨fun ⟨h1,g,j⟩=>by cases a;cases b;simp_all,fun h=>by subst h;exact⟨rfl,rfl,rfl⟩⟩
structure NH (a b:bL c7) (k:Nat) (sgZ:aR) (l:ae) :Prop where
 ov:l=[]
 lf:sgZ 0=gb a
 fp:sgZ 1=gb b
 kA:sgZ 5=.i6 k
 jX:∀ j,j<k->a.l[j]?=b.l[j]?
def uA (s:bL c7) :Prop:=(∀ r∈s.l,r.id.length=32)/\s.l.length<=1000000
theorem G7 (a b:bL c7) (v:uA a) (H:uA b) :aY 15 [gb a,gb b] (.bool (decide (a.l=b.l))):=by
 apply bc func15 [];have m:bx (.ad 34) (gb a)=_:=cd _;have I:bx (.ad 34) (gb b)=_:=cd _;have Y:=v.2;by_cases h1:a.l.length=b.l.length
 ·have q:(a.l.length:Int)=(b.l.length:Int):=F;simp[m,I,q];refine bz a.l.length (NH a b) ?_ ⟨rfl,V,V,V,fun j h=>F⟩;rintro k U l hk ⟨rfl,C,D,G,J⟩;obtain⟨U,rfl⟩:=gK C D G;clear C D G;by_cases o:k<a.l.length
  ·obtain⟨x,p,K⟩:=aP o;obtain⟨y,B,O⟩:=aP (l:=b.l) (k:=k) F;have P:=cq (k:=k) F;have w:bO (.ad 34) (gb a) _=_:=dg p;have z:bO (.ad 34) (gb b) _=_:=dg B;have t:(cP x).length=34:=by simp[cP,bu (v.1 x K)]
   have u:(cP y).length=34:=by simp[cP,bu (H.1 y O)]
   have g:=WQ (v.1 x K) (H.1 y O);rw[WR] at g;obtain⟨W,R⟩:=ao (cP x);obtain⟨X,S⟩:=ao (cP y);rw[<-R] at t w g;rw[<-S] at u z g;by_cases e:x=y
   ·rw[bY e] at g;simp[m,o,w,z,t,u,g,P,aL];refine⟨rfl,V,V,V,fun j T=>?_⟩;by_cases Q:j=k
    ·subst Q;rw[p,B,e]
    ·exact J j F
   ·rw[cC e] at g;simp[m,o,w,z,t,u,g,aL];refine aT ?_ rfl;rw[cC];intro h;rw[h,B] at p;exact e (cg p).symm
  ·have Z:k=a.l.length:=F;simp[m,o];refine aT ?_ rfl;rw[bY];apply g5;intro j;by_cases T:j<a.l.length
   ·exact J j F
   ·rw[ea F,ea F]
 ·have q:¬ (a.l.length:Int)=(b.l.length:Int):=F;simp[m,I,q];exact aT (by rw[cC fun h=>h1 (by rw[h])]) rfl
end Op
namespace Op
open ca
def kI (x:D) (m:List B) :D:=(qI (110#8::(hy [x]++m)) % 500000002#64).setWidth 32+1#32
theorem Wx (x:Q) :ct .rem .u64 (u x) .u64 500000002=some (.int .u64 (u (x % 500000002#64))):=rP x 500000002#64 (by decide)
theorem VN (x:D) (m:dS) (H:m.l.length<=900000) :aY 193 [a7 x,cc m] (a7 (kI x m.l)):=by
 apply bc func193 [];have j:=dF;have G:=i5 m;simp;refine Ce x fun w v h1=>?_
 have u:b9 1 bR [] v (.ad 1 0 0 1 1 1) [110#8] false:=⟨0,lp (n:=1) (a:=[110#8]) rfl (by rw[h1.same 0 V];rfl),V,V,.inr V,rfl⟩
 obtain⟨K,I,o,p,z⟩:=u.app (by_:=1) (x:=w) (xs:=fQ x) h1.contents (fun _ _=>rfl) F F (by rw[j];simp[fQ]);simp[o];refine b2.bq ?_;obtain⟨O,J,q,t,C⟩:=p.app (by_:=1) (x:=cc m) (xs:=m.l) (BN _ _) (fun _ _=>rfl) F F (by rw[j];simp[fQ];omega);simp[q];refine b2.bq ?_;have g:(bL.l (some ([110#8]++fQ x++m.l)) :List B)=110#8::(hy [x]++m.l):=by simp[hy]
 have h:=Jo (some ([110#8]++fQ x++m.l)) (by rw[g];simp[hy,fQ];omega);rw[g] at h;simp;refine hg h (.cons (t.mV (fun _=>rfl) (some ([110#8]++fQ x++m.l)) V rfl) .nil) rfl ?_;simp[Wx];exact aE
def q7 (a b:D) :D:=BitVec.ofNat 32 (a.toNat*b.toNat % 500000003)
def sO (a b:D) :D:=BitVec.ofNat 32 ((a.toNat+b.toNat) % 500000003)
theorem VW (a b:D) :aY 196 [a7 a,a7 b] (a7 (q7 a b)):=by
 apply bc func196 [];have g:∀ a:D,(a.setWidth 64:Q).toNat=a.toNat:=fun a=>by rw[eS];omega
 have h:((a.setWidth 64:Q)*b.setWidth 64 % 500000003#64).setWidth 32=q7 a b:=by
  have j:=a.isLt;have o:=b.isLt;have m:a.toNat*b.toNat<2 ^ 64:=mq (Nat.mul_lt_mul'' j o) (by decide);apply eO;rw[eS,kg,s6,g,g,dR m];unfold q7;rw[fe];rfl
 simp[zP,h];exact aE
theorem V6 (a b:D) :aY 195 [a7 a,a7 b] (a7 (sO a b)):=by
 apply bc func195 [];have g:∀ a:D,(a.setWidth 64:Q).toNat=a.toNat:=fun a=>by rw[eS];omega
 have h:(((a.setWidth 64:Q)+b.setWidth 64) % 500000003#64).setWidth 32=sO a b:=by
  have j:=a.isLt;have m:=b.isLt;apply eO;rw[eS,kg,xK,g,g,dR (a:=a.toNat+b.toNat) F];unfold sO;rw[fe];rfl
 simp[zP,h];exact aE
def j7 (x:D) (m:List B) :D:=pe (dX 4#32 (kI x m).toNat) (dX 4#32 x.toNat) m
def lx (x:D) (m:List B) :D:=sO (kI x m) (q7 (j7 x m) x)
theorem VY (x:D) (m:dS) (h:m.l.length<=900000) :aY 133 [a7 x,cc m] (.ah [a7 (j7 x m.l),a7 (lx x m.l)]):=by apply bc func133 [];have g:=i5 m;simp;refine av (VN x m h) (by simp[aq,U.aw,g]) ?_;simp;refine av (zJ (kI x m.l)) rfl ?_;simp;refine av (zJ x) rfl ?_;simp;refine av (Kw (dX 4#32 (kI x m.l).toNat) (dX 4#32 x.toNat) m h) (by simp[aq,U.aw,g]) ?_;simp;refine av (VW (j7 x m.l) x) rfl ?_;simp;refine av (V6 (kI x m.l) (q7 (j7 x m.l) x)) rfl ?_;simp[ax];exact aE
def Ef (x:D) :Bool:=decide (1<=x.toNat)&&decide (x.toNat<500000003)
theorem VX (x:D) :aY 129 [a7 x] (.i6 (if Ef x then 0 else 2)):=by
 apply bc func129 [];unfold Ef;have m:(x.setWidth 64:Q).toNat=x.toNat:=by rw[eS];omega
 by_cases o:x.toNat=0
 ·have p:x=0#32:=eO o;subst p;simp;exact aE
 ·have h1:¬ (u x:Int)=0:=by unfold u;omega
  by_cases j:x.toNat<500000003
  ·have g:¬ (500000003:Int)<=u (x.setWidth 64:Q):=by unfold u;rw[m];omega
   simp[h1,g];exact aT (by rw[aj ⟨F,j⟩]) rfl
  ·have g:(500000003:Int)<=u (x.setWidth 64:Q):=by unfold u;rw[m];omega
   simp[h1,g];exact aT (by rw[ak fun h=>j h.2]) rfl
def ed (x:D) (o:aG) :aG:={ o with en:=dX 4#32 x.toNat,ay:=some o.ay.l,e:=0#32,s:=0#32 }
def fJ (x:D) (o:aG) :aG:={ ed x o with e:=j7 x (eH (ed x o)),s:=lx x (eH (ed x o)) }
theorem VA (o:aG) :aY 131 [.ah (au o)] (.ah (au (eo o))):=by apply bc func131 [];have g:=dV (eo o);simp[au,ax];exact aT rfl (by simpa [U.aw,eo,au] using g)
theorem V1 (x:D) (o:aG) (g:dz o) (al:Ef x=true) (m:c3 (ed x o)=0) :aY 83 [a7 x,.ah (au o)] (.a1 [.ah (au (fJ x o)),.i6 0]):=by
 apply bc func83 [];have B:=VX x;rw[al] at B;have W:(au o).length=11:=rfl;have X:(au o).take 11=au o:=rfl;have T:=dV o;have K:dz (eo o):=⟨g.idsZ,g.len,g.val,g.key⟩
 have u:dz (ed x o):=⟨g.idsZ,g.len,g.val,g.key⟩
 have J:=VA o;have ak:=KD (eo o) K;have R:=zJ x;have z:=DE (ed x o) u;rw[m] at z;have O:=dV (eo o);have Q:=dV (ed x o);have P:=dV (fJ x o);obtain⟨ap,ay⟩:=Db u.idsZ m;have Y:=VY x (some (eH (ed x o))) (by show (eH _).length<=_;omega);have ar:=pM m;have S:(au (eo o)).length=11:=rfl;have p:(au (cp (eo o))).length=11:=rfl;have t:(au (ed x o)).length=11:=rfl;have ae:(au (eo o)).take 11=au (eo o):=rfl;have ai:(au (cp (eo o))).take 11=au (cp (eo o)):=rfl;have C:(au (ed x o)).take 11=au (ed x o):=rfl;have G:∀ L:ag,L.length=11->ax [U.int .u32 0,.af,.int .u64 0,.int .u8 0,.str [],.int .u8 0,.i6 0,.int .u64 0,.str [],.int .u32 0,.int .u32 0] 0 L=L:=fun L h=>cI (by rw[h];rfl)
 have I:ax (au (cp (eo o))) 0 [a7 (dX 4#32 x.toNat)]=au (ed x o):=rfl;have Z:ax (au (ed x o)) 9 [a7 (j7 x (eH (ed x o))),a7 (lx x (eH (ed x o)))]=au (fJ x o):=rfl;simp;refine av B rfl ?_;simp[W,X];refine av J (by simp[aq,U.aw,T]) ?_;simp[S,ae];refine av ak (by simp[aq,U.aw,O]) ?_;simp[p,ai,G _ p];refine av R rfl ?_;simp[p,I,t,C];refine av z (by simp[aq,U.aw,Q]) ?_;simp[t,C];refine DI (ed x o) u F fun w j h=>?_
 have v:j[2]?=some (.q 11 (au (ed x o))):=by rw[h.same 2 V];rfl
 have H:j[1]?=some (.q 11 [.int .u32 0,.af,.int .u64 0,.int .u8 0,.str [],.int .u8 0,.i6 0,.int .u64 0,.str [],.int .u32 0,.int .u32 0]):=by rw[h.same 1 V];rfl
 simp[v];refine hg Y (.cons (.same _ rfl) (.cons (h.mV (fun _=>rfl) (some (eH (ed x o))) rfl rfl) .nil)) rfl ?_;have q1:(j.set 2 (.q 11 (au (fJ x o))))[2]?=some (.q 11 (au (fJ x o))):=b1 (a2 v);have fE:(au (fJ x o)).length=11:=rfl;have aj:(au (fJ x o)).take 11=au (fJ x o):=rfl;have ao:∀ c:am,((j.set 2 (.q 11 (au (fJ x o)))).set 1 c)[1]?=some c:=fun c=>b1 (by simpa using a2 H)
 simp[v,H,t,Z,q1,fE,aj,G _ fE,ao];exact aT rfl (show (U.a1 [.ah (au (fJ x o)),.i6 0]).aw=true by simp[U.aw,aq,P])
theorem J4 (n:Nat) :ez 4 n=ez 4 (n % 500000003):=by
 have h:n=500000003*(n / 500000003)+n % 500000003:=(Nat.div_add_mod n 500000003).symm
 conv=>lhs;rw[h]
 rw[Du,<-uF,Bp,Dv,tj,dR (pQ _ _)]
theorem T4 (x:D) (m:List B) :(kI x m).toNat<500000003:=by
 unfold kI;have h:(qI (110#8::(hy [x]++m)) % 500000002#64).toNat<500000002:=by
  rw[kg];exact iY _ (by decide)
 rw[xK,eS];have h1:(1#32:D).toNat=1:=rfl;rw[h1];omega
theorem BC (r y:D) (m:List B) :(pe r y m).toNat<500000003:=by unfold pe;rw[eS,kg];have h:(qI (99#8::(hy [r,y]++m))).toNat % (500000003#64).toNat<500000003:=iY _ (by decide);omega
theorem EC (a b:D) :(sO a b).toNat=(a.toNat+b.toNat) % 500000003:=by unfold sO;rw[fe];have:=iY (a.toNat+b.toNat) (show 0<500000003 by decide);omega
theorem Xb (a b:D) :(q7 a b).toNat=a.toNat*b.toNat % 500000003:=by unfold q7;rw[fe];have:=iY (a.toNat*b.toNat) (show 0<500000003 by decide);omega
theorem V9 (x:D) (m:List B) :sA (dX 4#32 x.toNat) (j7 x m) (lx x m)=dX 4#32 (kI x m).toNat:=by
 have q:(4#32:D).toNat=4:=rfl;have h:=BC (dX 4#32 (kI x m).toNat) (dX 4#32 x.toNat) m;change (j7 x m).toNat<_ at h;have g:(lx x m).toNat=((kI x m).toNat+(j7 x m).toNat*x.toNat % 500000003) % 500000003:=by
  unfold lx;rw[EC,Xb]
 have hk:=T4 x m;apply eO;unfold sA uG;rw[fe,lr,lr,lr,lr,q,uF,<-Du];obtain⟨k,v⟩:=ao ((kI x m).toNat);obtain⟨e,u⟩:=ao ((j7 x m).toNat);obtain⟨n,w⟩:=ao (x.toNat);rw[<-v] at g hk ⊢;rw[<-u] at g h ⊢;rw[<-w] at g ⊢;have z:=pQ 4 ((lx x m).toNat+n*(500000003 - e));rw[dR F];rw[J4,J4 k,g];congr 1;obtain⟨d,t⟩:∃ d,500000003=e+d:=⟨500000003 - e,F⟩
 have j:500000003 - e=d:=F;rw[j,Nat.mod_add_mod];have o:(k+e*n % 500000003+n*d) % 500000003=(k+(e*n+n*d)) % 500000003:=by
  rw[show k+e*n % 500000003+n*d=e*n % 500000003+(k+n*d) by omega,Nat.mod_add_mod];congr 1;omega
 have p:e*n+n*d=n*500000003:=by rw[xY e n,<-Nat.mul_add,<-t]
 rw[o,p,Nat.add_mul_mod_self_right]
theorem Xn (x:D) (o:aG) :xj (fJ x o)=true:=by
 have h:eH (fJ x o)=eH (ed x o):=rfl;have h1:eW (j7 x (eH (ed x o)))=true:=by unfold eW;exact bY (BC _ _ _)
 have g:eW (lx x (eH (ed x o)))=true:=by
  unfold eW;refine bY ?_;unfold lx;rw[EC];exact iY _ (by decide)
 unfold xj;rw[h];show sJ (dX 4#32 x.toNat) (eH (ed x o)) (j7 x (eH (ed x o))) (lx x (eH (ed x o)))=true;unfold sJ;rw[h1,g,V9];exact bY rfl
theorem LA {x:D} {o:aG} (h:c3 (ed x o)=0) :c3 (fJ x o)=0:=by
 have h1:eW (j7 x (eH (ed x o)))=true:=by unfold eW;exact bY (BC _ _ _)
 have j:eW (lx x (eH (ed x o)))=true:=by
  unfold eW;refine bY ?_;unfold lx;rw[EC];exact iY _ (by decide)
 have u:(fJ x o).ay=(ed x o).ay:=rfl;have q:mE (ed x o)=(eP (ed x o).en&&(decide ((ed x o).eZ.toNat<=1000000000000)&&(hM (ed x o).act&&(eW (ed x o).e&&eW (ed x o).s)))):=rfl;have t:mE (fJ x o)=(eP (ed x o).en&&(decide ((ed x o).eZ.toNat<=1000000000000)&&(hM (ed x o).act&&(eW (j7 x (eH (ed x o)))&&eW (lx x (eH (ed x o))))))):=rfl;unfold c3 at h ⊢;rw[u];split at h
 ·cases h
 ·rename_i m;rw[ak m];split at h
  ·rename_i p;rw[aj p];split at h
   ·rename_i g;rw[q] at g;simp only[bH] at g;rw[t,h1,j,g.1,g.2.1,g.2.2.1];rfl
   ·cases h
  ·cases h
theorem Xo {x:D} {o:aG} (h:c3 (ed x o)=0) :eA (fJ x o)=0:=by unfold eA;rw[aj (LA h),Xn,aj rfl]
def w1 (n:Nat) :D:=BitVec.ofNat 32 (w0 4 n 64)
theorem Dt {n:Nat} (h:n<2 ^ 64) :dX 4#32 n=w1 n:=by unfold dX w1;rw[Ds 4 n h 64 (aI _)];rw[show n / 2 ^ (64 - 64)=n from Nat.div_one n];rfl
def z6 (x:D) (m:List B) :D:=pe (w1 (kI x m).toNat) (w1 x.toNat) m
theorem Xj (x:D) (m:List B) :j7 x m=z6 x m:=by unfold j7 z6;rw[Dt (by have:=(kI x m).isLt;omega),Dt (by have:=x.isLt;omega)]
def uZ (x:D) (o:aG) :aG:={ o with en:=w1 x.toNat,ay:=some o.ay.l,e:=0#32,s:=0#32 }
theorem YI (x:D) (o:aG) :ed x o=uZ x o:=by unfold ed uZ;rw[Dt (by have:=x.isLt;omega)]
def Ek (x:D) (o:aG) :aG:=
 { uZ x o with e:=z6 x (eH (uZ x o)),s:=sO (kI x (eH (uZ x o))) (q7 (z6 x (eH (uZ x o))) x) }
theorem Lx (x:D) (o:aG) :fJ x o=Ek x o:=by unfold fJ Ek lx;rw[YI,Xj]
end Op
namespace Op
open ca aN
theorem QD {x:c7} (h:(cP x).length=34) :x.id.length=32:=by simp[cP,ar] at h;exact h
theorem Lj:∀ (l:List b7),(∀ j∈l,fv j)->∀ (s:a6) (all:List c7),dH s->(∀ r∈all,r.id.length=32)->dH (cw l s all).1/\(∀ r∈(cw l s all).2.1,r.id.length=32)/\(cw l s all).2.1.length<=all.length+9*l.length
 | [],_,s,all,m,o=>⟨m,o,by show all.length<=_;simp⟩
 | j::r,q,s,all,m,o=>by
  have p:=q j V;unfold cw;by_cases h:dh s j=0
  ·rw[aj h];obtain⟨h1,w⟩:=Jy m p h;obtain⟨t,u,v⟩:=Lj r (fun x g=>q x (by simp[g])) (cl s j).1 (all++(cl s j).2) (pL m p h).1 (fun x g=>by
    rcases fm.1 g with g | g
    ·exact o x g
    ·exact QD (Jz m p h x g))
   refine⟨t,u,?_⟩;rw[cr] at v;simp;omega
  ·rw[ak h];exact⟨xn,fun x g=>(fX g).elim,V⟩
theorem D7 {s:a6} (q:dH s) {l:List b7} (p:∀ j∈l,fv j) (t:l.length<=1000) :dH (eY s l).1/\uA (ia (eY s l).2.1):=by
 unfold eY;split
 ·split
  ·exact⟨xn,fun x g=>(fX g).elim,ek _⟩
  ·obtain⟨h,m,o⟩:=Lj l p (dP s) [] (uB q (pH s)) (fun x g=>(fX g).elim);refine⟨h,?_,?_⟩
   ·rw[lB];exact m
   ·rw[lB];simp at o;omega
 ·exact⟨xn,fun x g=>(fX g).elim,ek _⟩
open ca aN
def s2:aU:=⟨none,none⟩
def El:ck:=⟨none,none,0⟩
def j1 (n:Int) :ck:=if 1<=n/\n<=4 then ⟨some (List.replicate n.toNat s2),none,0⟩ else El
def xi (n:Int) :Int:=if 1<=n/\n<=4 then 0 else 2
theorem zj {n:Int} (h:¬ (1<=n/\n<=4)) :j1 n=El/\xi n=2:=⟨ak h,ak h⟩
theorem Jd {n:Int} (h:1<=n/\n<=4) :j1 n=⟨some (List.replicate n.toNat s2),none,0⟩/\xi n=0:=⟨aj h,aj h⟩
theorem Wc {l:ae} {a b c j m c' : U} (h1:Rd l a j) (o:Rd l b m) (p:Rd l c c') :Rd l (.ah [a,b,c]) (.ah [j,m,c']):=by
 refine .ah _ _ rfl fun i x q g h=>?_
 rcases i with _ | _ | _ | i
 ·simp at g h;subst g h;exact h1
 ·simp at g h;subst g h;exact o
 ·simp at g h;subst g h;exact p
 ·simp at g
theorem Xp (n:Int) :aY 93 [.i6 n] (.a1 [.ah (bQ (j1 n)),.i6 (xi n)]):=by
 apply bc func93 [];have o:=dF;by_cases h1:n<1
 ·rw[(zj (n:=n) F).1,(zj (n:=n) F).2];simp[h1];exact aE
 ·by_cases g:4<n
  ·rw[(zj (n:=n) F).1,(zj (n:=n) F).2];simp[h1,g];exact aE
  ·rw[(Jd (n:=n) F).1,(Jd (n:=n) F).2];obtain⟨k,rfl⟩:∃ k:Nat,n=k:=⟨n.toNat,F⟩
   simp[h1,g,l2,o,ew,ax];have p:cD [U.af,U.af] k=((List.replicate k s2).map bf).flatten:=by
    rw[xT];clear h1 g
    induction k with
    | zero=>rfl
    | succ k t=>rw[cD,t,kk,g6];rfl
   have j:(cD [U.af,U.af] k).length=k*2:=by rw[zQ];rfl
   have m:aM 2 [am.q 3 [U.ad 2 1 0 k k (k*2),U.af,U.int IntKind.i64 0],am.q (k*2) (cD [U.af,U.af] k)] (.ad 2 1 0 k k (k*2)) 1 ((List.replicate k s2).map bf):=
    .ad 1 k k (k*2) (cD [U.af,U.af] k) _ rfl j V (fun e h=>by obtain⟨u,_,rfl⟩:=cy.1 h;rfl) (aI _) (aI _) (by rw[<-p,aL F])
   refine⟨F,DL (Wc (m.q.jA pi (some (List.replicate k s2)) rfl rfl) (.same _ rfl) (.same _ rfl)) (.same _ rfl)⟩
open ca aN
theorem ZD:ff s2:=⟨fun _ h=>(fX h).elim,fun _ h=>(fX h).elim,ek _,ek _⟩
def nD (c n:Int) :Prop:=1<=c/\c<=40/\1<=n/\n<=4
instance (c n:Int) :Decidable (nD c n):=by unfold nD;infer_instance
def wE (c n:Int) :Int:=if nD c n then 0 else 2
def LX:dm:=⟨0,El,none⟩
def lm (c n:Int) :dm:=if nD c n then ⟨c,j1 n,none⟩ else LX
theorem XV (c n:Int) :aY 47 [.i6 c,.i6 n] (.a1 [.ah (cv (lm c n)),.i6 (wE c n)]):=by
 apply bc func47 [];have bad:¬ nD c n->lm c n=LX/\wE c n=2:=fun h=>⟨ak h,ak h⟩
 have B:=Xp n;have m:(bQ (j1 n)).length=3:=rfl;have p:=k7 (lm c n);simp;refine av B rfl ?_;by_cases h1:c<1
 ·obtain⟨g,j⟩:=bad (by unfold nD;omega);rw[g,j];simp[h1,m];exact aE
 ·by_cases u:40<c
  ·obtain⟨g,j⟩:=bad (by unfold nD;omega);rw[g,j];simp[h1,u,m];exact aE
  ·by_cases o:1<=n/\n<=4
   ·have hk:nD c n:=⟨F,F,o.1,o.2⟩
    have g:lm c n=⟨c,j1 n,none⟩:=aj hk;have j:wE c n=0:=aj hk;have t:xi n=0:=aj o;have z:cv ⟨c,j1 n,none⟩=.i6 c::(bQ (j1 n)++[.af]):=rfl;rw[g] at p;rw[g,j];rw[z] at p ⊢;obtain⟨v,w⟩:=ao (bQ (j1 n));rw[<-w] at m p ⊢;obtain⟨x,y,q,rfl⟩:∃ x y q,v=[x,y,q]:=by
     match v,m with
     | [x,y,q],_=>exact⟨x,y,q,rfl⟩
    simp[h1,u,t,ax];exact aT rfl (by simpa [U.aw,aq] using p)
   ·obtain⟨g,j⟩:=bad (by unfold nD;omega);have t:xi n=2:=ak o;rw[g,j];simp[h1,u,t,m];exact aE
def oI (c n w:Int) :Prop:=nD c n/\1<=w/\w<=8
instance (c n w:Int) :Decidable (oI c n w):=by unfold oI;infer_instance
def wJ (c n w:Int) :Int:=if oI c n w then 0 else 2
def gq (c n w:Int) :a6:=if oI c n w then ⟨lm c n,w,none,0,false⟩ else g2
theorem G6 (c n w:Int) :aY 16 [.i6 c,.i6 n,.i6 w] (.a1 [.ah (bp (gq c n w)),.i6 (wJ c n w)]):=by
 apply bc func16 [];have bad:¬ oI c n w->gq c n w=g2/\wJ c n w=2:=fun h=>⟨ak h,ak h⟩
 have G:=XV c n;have D:=Zg w;have o:(cv (lm c n)).length=5:=rfl;have p:=jp (gq c n w);simp;refine av G rfl ?_;simp[o];refine av D rfl ?_;unfold C2;by_cases h1:nD c n
 ·have m:wE c n=0:=aj h1;by_cases z:w<1\/8<w
  ·obtain⟨g,j⟩:=bad (by unfold oI;omega);rw[g,j,aj z];simp[m,bS];exact aE
  ·have hk:oI c n w:=⟨h1,F,F⟩
   have g:gq c n w=⟨lm c n,w,none,0,false⟩:=aj hk;have j:wJ c n w=0:=aj hk;have C:bp ⟨lm c n,w,none,0,false⟩=cv (lm c n)++[.i6 w,.af,.i6 0,.bool false]:=rfl;rw[g] at p;rw[g,j,ak z];rw[C] at p ⊢;obtain⟨v,B⟩:=ao (cv (lm c n));rw[<-B] at o p ⊢;obtain⟨x,y,u,q,t,rfl⟩:∃ x y u q t,v=[x,y,u,q,t]:=by
    match v,o with
    | [x,y,u,q,t],_=>exact⟨x,y,u,q,t,rfl⟩
   simp[m,ax,bS];exact aT rfl (by simpa [U.aw,aq] using p)
 ·have m:wE c n=2:=ak h1;obtain⟨g,j⟩:=bad (by unfold oI;exact fun h=>h1 h.1);rw[g,j];split
  ·simp[m,bS,o];exact aE
  ·simp[m,bS,o];exact aE
open ca aN
noncomputable def rR (s:a6) :Int:=if fl s=0 then (if s.dj then 34 else 0) else 8
def q9 (s:a6) :a6:=⟨s.aD,s.bN,s.pl,s.bA,true⟩
noncomputable def BD (s:a6) :a6:=if rR s=0 then q9 (dP s) else g2
theorem LU (s:a6) :fl s=0\/fl s=8:=by unfold fl;split<;>simp
theorem P6 (s:a6) (z:dH s) :aY 20 [.ah (bp s)] (.a1 [.ah (bp (BD s)),.i6 (rR s)]):=by
 apply bc func20 [];have p:=hR s;have v:=BO s z;have g:rR s=if fl s=0 then (if s.dj then 34 else 0) else 8:=rfl
 have h:BD s=if rR s=0 then q9 (dP s) else g2:=rfl
 have u:=fun Q=>BQ s z Q
 obtain⟨W,K⟩:=ao (bp s);rw[<-K] at p v u ⊢;obtain⟨m,C,ay,ap,ag,ar,Z,F,X,al,ai,au,ae,G,Y,am,D⟩:=p;simp[m,C];refine av v (by simp[aq,U.aw,D]) ?_;by_cases h1:fl s=0
 ·rw[aj h1] at g;cases j:s.dj with
  | true=>
   rw[j] at g;simp only[if_true] at g;rw[g] at h ⊢;rw[ak (by decide)] at h;rw[h];simp[h1,m,F,G,j];exact aE
  | false=>
   rw[j] at g;simp only[jJ,if_false] at g;rw[g] at h ⊢;rw[aj rfl] at h;rw[h];have B:=u ((iR s).1 h1).pen;have q:=hR (dP s);have t:=hR (q9 (dP s));have o:ax (bp (dP s)) 8 [.bool true]=bp (q9 (dP s)):=rfl;have w:=jp (q9 (dP s));obtain⟨vv,O⟩:=ao (bp (dP s));obtain⟨tx,P⟩:=ao (bp (q9 (dP s)));rw[<-O] at q o B;rw[<-P] at o w t ⊢;obtain⟨H,R,_⟩:=q;obtain⟨I,T,_⟩:=t;have S:ax [U.i6 0,.af,.af,.i6 0,.af,.i6 0,.af,.i6 0,.bool false] 0 vv=vv:=cI (by rw[H];rfl);have V:ax [U.i6 0,.af,.af,.i6 0,.af,.i6 0,.af,.i6 0,.bool false] 0 tx=tx:=cI (by rw[I];rfl);simp[h1,m,C,F,G,j];refine av B (by simp[aq,U.aw,D]) ?_;simp[H,R,S,o,I,T,V];exact aT rfl (by simp[U.aw,aq,w])
 ·have J:fl s=8:=(LU s).resolve_left h1;rw[ak h1] at g;rw[g] at h ⊢;rw[ak (by decide)] at h;rw[h];simp[J,m];exact aE
open ca aN
theorem TK (n:Int) :g9 (j1 n):=by
 unfold j1;split
 ·refine⟨fun j g=>?_,?_,fun _ h=>(fX h).elim,ek _⟩
  ·obtain rfl:=tb g;exact⟨ZD,ek _,ek _⟩
  ·show (List.replicate n.toNat s2).length<=10;rw[List.length_replicate];omega
 ·exact⟨fun _ h=>(fX h).elim,ek _,fun _ h=>(fX h).elim,ek _⟩
theorem TL (c n:Int) :kZ (lm c n):=by
 unfold lm;split
 ·exact⟨TK n,fun _ h=>(fX h).elim,ek _⟩
 ·exact xn.aD
theorem C6 (c n w:Int) :dH (gq c n w):=by
 unfold gq;split
 ·exact⟨TL c n,fun _ h=>(fX h).elim,ek _⟩
 ·exact xn
open ca aN
def hV (st:Q) (ps:bV) :aG:=⟨0#32,ps,st,⟨1#8,[],mi⟩,0#32,0#32⟩
def ja (t:Int) (st:Q) (ps:bV) :b7:=⟨t,0,fJ 5#32 (hV st ps),fr (fj (fJ 5#32 (hV st ps)))⟩
theorem Nc:zs mi:=⟨by decide,by decide,ek _⟩
theorem JF {st:Q} {ps:bV} (h:cT ps) (g:ps.l.length<=4) :dz (hV st ps):=⟨h,by show ps.l.length<=_;omega,Nc,ek _⟩
theorem MC {st:Q} {ps:bV} (o:ps.l.length<=4) (j:bX ps.l=true) (m:st.toNat<=1000000000000) :c3 (ed 5#32 (hV st ps))=0:=by
 unfold c3;have h:(ed 5#32 (hV st ps)).ay.l=ps.l:=rfl;have g:mE (ed 5#32 (hV st ps))=true:=by
  show (eP (dX 4#32 5)&&(decide (st.toNat<=1000000000000)&&(hM ⟨1#8,[],mi⟩&&(eW 0#32&&eW 0#32))))=true;rw[yU (y:=4#32) Bp,bY m];decide +kernel
 rw[h,ak F,j,aj rfl,g,aj rfl]
theorem Ly {st:Q} {ps:bV} (h:cT ps) (g:ps.l.length<=4) :dz (fJ 5#32 (hV st ps)):=⟨h,by show ps.l.length<=_;omega,Nc,ek _⟩
theorem I0 {t:Int} {st:Q} {ps:bV} (h:cT ps) (g:ps.l.length<=4) :fv (ja t st ps):=⟨Ly h g,jE _⟩
theorem IU (t:Int) (st:Q) (ps:bV) (h:cT ps) (o:ps.l.length<=4) (P:bX ps.l=true) (V:st.toNat<=1000000000000) :
  aY 39 [.i6 t,c1 st,ai ps] (.ah (dN (ja t st ps))):=by
 apply bc func39 [[[0],[1],[2],[3,1]]];have J:=JF (st:=st) h o;have T:=Ly (st:=st) h o;have v:=V1 5#32 (hV st ps) J rfl (MC o P V);have K:=DD (fJ 5#32 (hV st ps)) T (by show ps.l.length<=_;omega);have m:=nn (ja t st ps);have q:=dV (hV st ps);have S:=dV (fJ 5#32 (hV st ps));have H:(ai ps).cells=some [ai ps]:=by cases ps<;>rfl
 have D:au (hV st ps)=[U.int .u32 0,ai ps,.int .u64 (u st),.int .u8 1,.str [],.int .u8 0,.i6 0,.int .u64 0,.str [],.int .u32 0,.int .u32 0]:=rfl;have g:(au (fJ 5#32 (hV st ps))).length=11:=rfl;have W:(au (fJ 5#32 (hV st ps))).take 11=au (fJ 5#32 (hV st ps)):=rfl;have X:∀ L:ag,L.length=11->ax [U.int .u32 0,.af,.int .u64 0,.int .u8 0,.str [],.int .u8 0,.i6 0,.int .u64 0,.str [],.int .u32 0,.int .u32 0] 0 L=L:=fun L h=>cI (by rw[h];rfl)
 rw[D] at v q;simp[H,ax];refine av v (by simpa [aq,U.aw] using q) ?_;simp[g,W,X _ g];refine av K (by simp[aq,U.aw,S]) ?_;have j:=bu (x:=(ja t st ps).id) (jE _);have G:eF (fr (fj (fJ 5#32 (hV st ps))))=.ah (ar (ja t st ps).id):=rfl;have p:dN (ja t st ps)=.i6 t::.int .u8 0::(au (fJ 5#32 (hV st ps))++ar (ja t st ps).id):=rfl;rw[G,p];rw[p] at m;obtain⟨I,w⟩:=ao (ar (ja t st ps).id);obtain⟨O,z⟩:=ao (au (fJ 5#32 (hV st ps)));rw[<-w] at j m ⊢;rw[<-z] at g m ⊢;have Y:ax (U.int .u32 0::.af::.int .u64 0::.int .u8 0::.str [] ::.int .u8 0::.i6 0::.int .u64 0::.str [] ::.int .u32 0::.int .u32 0::bT 32 (.int .u8 0)) 0 O=O++bT 32 (.int .u8 0):=by
  unfold ax;rw[g];rfl
 have Z:ax (O++bT 32 (.int .u8 0)) 11 I=O++I:=by
  unfold ax;rw[List.take_left' g,j,kh (by rw[cr,g];exact aI _),eT]
 have R:(bT 32 (U.int .u8 0)).length=32:=rfl;have ae:ax (U.int .u32 0::.af::.int .u64 0::.int .u8 0::.str [] ::.int .u8 0::.i6 0::.int .u64 0::.str [] ::.int .u32 0::.int .u32 0::bT 32 (.int .u8 0)) 0 (O++I)=O++I:=cI (by rw[cr,g,j];rfl);have C:O.take 11=O:=aL F;have B:(O++I).take 43=O++I:=aL (by rw[cr,g,j];exact aI _);simp[g,j,Y,Z,ae,R,C,B];exact aT rfl (show aq _=true from m)
open ca aN
theorem T9 {n:Int} (h:1<=n/\n<=4) :e1 (j1 n):=by have:n=1\/n=2\/n=3\/n=4:=F;rcases this with rfl | rfl | rfl | rfl<;>exact⟨by decide +kernel,by decide +kernel,by decide +kernel,by decide +kernel,by decide +kernel,by decide +kernel,by decide +kernel⟩
theorem C7 {c n w:Int} (h:oI c n w) :hs (gq c n w):=by
 obtain⟨⟨h1,m,g,j⟩,p,q⟩:=h;have e:gq c n w=⟨⟨c,j1 n,none⟩,w,none,0,false⟩:=by
  unfold gq lm;rw[aj ⟨⟨h1,m,g,j⟩,p,q⟩,aj ⟨h1,m,g,j⟩]
 have W:=T9 ⟨g,j⟩;have o:(j1 n).b6=0:=by unfold j1;rw[aj ⟨g,j⟩]
 rw[e];refine⟨⟨h1,m,W,by rw[o];show 0<=c;omega,by rw[o];rfl,?_⟩,Dp (by show ¬ (w<1\/8<w\/w<((0:Nat) :Int));omega) (fun k hk=>bP hk (Nat.not_lt_zero k)),Int.le_refl 0,by show (0:Int)<=1000000000;omega,fun _ h=>(fX h).elim⟩;unfold j4;rw[bC];exact fun i t=>bP t (Nat.not_lt_zero i)
theorem C9 {s:a6} (g:hs s) {j:b7} (h:fi j=true) (o:j.aF=s.bA) (m:s.bA≠1000000000) :dh s j=0:=by unfold dh;rw[aj ((iR s).2 g),h,aj rfl,aj o,ak m]
def cX:b7:=ja 1 1#64 none
def c9:b7:=ja 0 2#64 (some [cX.id])
def mJ:b7:={ cX with aF:=2 }
theorem yY:cX.id.length=32:=jE _
theorem Iw:cT (some [cX.id]):=fun x g=>by rw[bL.kE,fB] at g;rw[g];exact yY
theorem sd:fv cX:=I0 (fun _ h=>(fX h).elim) (ek _)
theorem yZ:fv c9:=I0 Iw (by decide)
theorem CD:fv mJ:=⟨sd.op,sd.id⟩
theorem I1 {t:Int} {st:Q} {ps:bV} (m:ps.l.length<=4) (o:bX ps.l=true) (p:st.toNat<=1000000000000) (q:sP t=true) :fi (ja t st ps)=true:=by
 have g:=MC m o p;have h1:=LA g;have h:=Xo g;have j:bE (ja t st ps).op=(ja t st ps).id:=by unfold bE;rw[aj (show c3 (ja t st ps).op=0 from h1)];rfl
 unfold fi;rw[aj (show (ja t st ps).cN=0 from rfl),j,bY (show c3 (ja t st ps).op=0 from h1),bY rfl,bY (show eA (ja t st ps).op=0 from h),show sP (ja t st ps).aF=true from q];rfl
theorem CC:fi cX=true:=I1 (ek _) rfl (by decide) rfl
theorem K0 (x:List B) :bX [x]=true:=rfl
theorem Iv:fi c9=true:=I1 (by decide) (K0 _) (by decide) rfl
theorem SA:fi mJ=true:=by have:=CC;unfold fi at this ⊢;simp only[bH] at this ⊢;exact⟨rfl,this.2⟩
def Ib (st:Q) (ps:bV) :List B:=fr (fj (Ek 5#32 (hV st ps)))
theorem Sy:cX.id≠c9.id:=by
 have g:cX.id=Ib 1#64 none:=by show fr (fj (fJ _ _))=_;rw[Lx];rfl
 have h:c9.id=Ib 2#64 (some [cX.id]):=by show fr (fj (fJ _ _))=_;rw[Lx];rfl
 rw[h,g];decide +kernel
theorem T5 {s:a6} {j:b7} {v:Int} (h:ef s j=v) (g:v≠6) (h1:v≠1) :cl s j=(eM s,[⟨j.aF,v,j.id⟩]):=by unfold cl;rw[h,ak g,ak h1]
theorem D9 {j:b7} {r:List b7} {s:a6} {all:List c7} (h:dh s j=0) :cw (j::r) s all=cw r (cl s j).1 (all++(cl s j).2):=by show (if dh s j=0 then _ else _)=_;rw[aj h]
theorem Mw {c:Int} (G:c=1\/c=2) :∃ m:a6,dH m/\hs m/\m.bA=2/\m.dj=false/\cX.id∈m.aD.aJ.l ∧
  ∀ r,cw (c9::cX::r) (dP (gq c 1 2)) []=cw r m [⟨0,6,c9.id⟩,⟨1,1,cX.id⟩,⟨0,if c=1 then 8 else 1,c9.id⟩]:=by
 have hk:oI c 1 2:=⟨⟨F,F,F,F⟩,F,F⟩
 have o:gq c 1 2=⟨⟨c,j1 1,none⟩,2,none,0,false⟩:=by
  unfold gq lm;rw[aj hk,aj hk.1]
 have S:=C7 hk;have X:=C6 c 1 2;have ay:dP (gq c 1 2)=gq c 1 2:=by rw[o];rfl
 rw[ay];obtain⟨j,av⟩:=ao (gq c 1 2);rw[<-av] at o S X ⊢;have w:j.bA=0:=by rw[o]
 have I:j.dj=false:=by rw[o]
 have u:j.aD.aJ.l=[]:=by rw[o];rfl
 have J:j.pl=none:=by rw[o]
 have aA:j.bN=2:=by rw[o]
 have Z:j.aD.cap=c:=by rw[o]
 -- the first
 have f1:dh j c9=0:=C9 S Iv (by rw[w];rfl) (by rw[w];decide);have U:dA j.aD.aJ.l c9.op=[cX.id]:=by rw[u];rfl
 have aC:ef j c9=6:=by
  rw[Au rfl I (by rw[u];exact fX) (by rw[J];exact fX),U,ak V,J,aA];rfl
 have O:cl j c9=(nH j c9,[⟨0,6,c9.id⟩]):=by unfold cl;rw[aj aC];rfl
 obtain⟨C,B,t,v,q1,K⟩:=pL X yZ f1;rw[O] at C B t v q1 K;have Q:bE c9.op=c9.id:=(tU Iv rfl).2.1;have z:(nH j c9).pl.l=[⟨0,c9.op,c9.id,fy [cX.id]⟩]:=by unfold nH;rw[U,J,Q];rfl
 have q:(nH j c9).aD=j.aD:=rfl;obtain⟨g,aw⟩:=ao (nH j c9);rw[<-aw] at C B t v q1 K z q O;simp only at C B t v q1 K
 -- the second
 have f2:dh g cX=0:=C9 B CC (by rw[t,w];rfl) (by rw[t,w];decide);have az:dA g.aD.aJ.l cX.op=[]:=by rw[q,u];rfl
 have ae:ef g cX=1:=by
  rw[Au rfl (by rw[v,I]) (by rw[q,u];exact fX) (by rw[z];simpa using Sy),az,aj rfl,q,u,Z];rw[ak (by rcases G with rfl | rfl<;>decide)]
 have ag:cl g cX=((gu g cX).1,⟨1,1,cX.id⟩::(gu g cX).2):=by unfold cl;rw[ak (by rw[ae];decide),aj ae];rfl
 obtain⟨Y,T,W,P,aE,aF⟩:=pL C sd f2;have ai:bE cX.op=cX.id:=(tU CC rfl).2.1;have D:aN.cM cX.id g.pl.l=[⟨0,c9.op,c9.id,fy []⟩]\/∃ p,aN.cM cX.id g.pl.l=[⟨0,c9.op,c9.id,p⟩]:=by
  rw[z];right;unfold aN.cM;have ax:aN.er cX.id ⟨0,c9.op,c9.id,fy [cX.id]⟩=⟨0,c9.op,c9.id,lz cX.id (fy [cX.id])⟩:=rfl;have aq:(lz cX.id (fy [cX.id])).l=[]:=by rw[uV,m0];simp[j2]
  refine⟨lz cX.id (fy [cX.id]),?_⟩;simp only[df,mn,ax];rw[rx,aj (by unfold gone;simp[aq])];rfl
 obtain⟨p,D⟩:∃ p,aN.cM cX.id g.pl.l=[⟨0,c9.op,c9.id,p⟩]:=D.elim (fun h=>⟨_,h⟩) id;have H:(gk (eM g) (go cX)).aD.aJ.l=[cX.id]:=by
  rw[BG (eM g) (x:=go cX) ai];show g.aD.aJ.l++[cX.id]=_;rw[q,u];rfl
 have al:(gk (eM g) (go cX)).aD.cap=c:=by show g.aD.cap=c;rw[q,Z]
 have ap:hP (gk (eM g) (go cX))=decide (c=1):=by
  unfold hP;rw[H,al];rcases G with rfl | rfl<;>rfl
 have am:de [(⟨0,c9.op,c9.id,p⟩:aB)]=⟨0,c9.op,c9.id,p⟩:=rfl;have au:∃ m,gu g cX=(m,[⟨0,if c=1 then 8 else 1,c9.id⟩])/\cX.id∈m.aD.aJ.l:=by
  unfold gu;rw[D,show g.pl.l.length=0+1 by rw[z];rfl,pS 0 _ [] V,ap,am];rcases G with rfl | rfl
  ·refine⟨_,rfl,?_⟩;show cX.id∈(gk (eM g) (go cX)).aD.aJ.l;rw[H];simp
  ·refine⟨_,rfl,?_⟩;show cX.id∈(gk (gk (eM g) (go cX)) ⟨0,c9.op,c9.id,p⟩).aD.aJ.l;rw[BG _ (x:=⟨0,c9.op,c9.id,p⟩) Q,H];simp
 obtain⟨m,R,ar⟩:=au;rw[ag,R] at Y T W P;refine⟨m,Y,T,by rw[W,t,w];rfl,by rw[P,v,I],ar,fun r=>?_⟩;rw[D9 f1,O,D9 f2,ag,R];rfl
theorem Yh:∃ t:a6,t.bA=3/\dH t/\eY (gq 2 1 2) [c9,cX,mJ]=(t,[⟨0,6,c9.id⟩,⟨1,1,cX.id⟩,⟨0,1,c9.id⟩,⟨2,5,cX.id⟩],0):=by
 obtain⟨j,w,u,g,q,v,h⟩:=Mw (c:=2) (.inr rfl);have f3:dh j mJ=0:=C9 u SA (by rw[g];rfl) (by rw[g];decide);have z:ef j mJ=5:=by
  unfold ef;rw[aj (show mJ.cN=0 from rfl),q,ak V,aj (.inl v)]
 have p:=T5 z (by decide) (by decide);obtain⟨o,_,m,_⟩:=pL w CD f3;rw[p] at o m;refine⟨eM j,by rw[m,g];rfl,o,?_⟩;unfold eY;rw[aj ((iR _).2 (C7 ⟨⟨by decide,by decide,by decide,by decide⟩,by decide,by decide⟩)),ak (by decide),h [mJ],D9 f3,p];rfl
theorem Rs:∃ t:a6,dH t/\eY (gq 1 1 2) [c9,cX]=(t,[⟨0,6,c9.id⟩,⟨1,1,cX.id⟩,⟨0,8,c9.id⟩],0):=by obtain⟨j,g,o,q,m,p,h⟩:=Mw (c:=1) (.inl rfl);refine⟨j,g,?_⟩;unfold eY;rw[aj ((iR _).2 (C7 ⟨⟨by decide,by decide,by decide,by decide⟩,by decide,by decide⟩)),ak (by decide),h []];rfl
open ca aN
theorem ON (j:b7) (g:fv j) (n:Int) :aY 40 [.ah (dN j),.i6 n] (.ah (dN { j with aF:=n })):=by
 apply bc func40 [];have o:=nn { j with aF:=n };have p:(dN j).length=45:=(mK g).len;have m:(dN { j with aF:=n }).length=45:=(mK (j:={ j with aF:=n }) ⟨g.op,g.id⟩).len;have q:ax (dN j) 0 [.i6 n]=dN { j with aF:=n }:=rfl;have t:(dN { j with aF:=n }).take 45=dN { j with aF:=n }:=aL F;have u:∀ J:ag,J.length=45->ax (U.i6 0::.int .u8 0::.int .u32 0::.af::.int .u64 0::.int .u8 0::.str [] ::.int .u8 0::.i6 0::.int .u64 0::.str [] ::.int .u32 0::.int .u32 0::bT 32 (.int .u8 0)) 0 J=J:=fun J h=>cI (by rw[h];rfl)
 simp[p,q,m,t,u _ m];exact aT rfl (show aq _=true from o)
theorem WP (r:c7) (h:r.id.length=32) :eb prog .eql 86 (.ah (cP r)) (.ah (cP r))=some (.bool true):=by
 have g:gE (.i .i64::.i .u8::List.replicate 32 (.i .u8)) (cP r)=true:=by
  have:=qV r.id;rw[h] at this;exact this
 rw[tD IG bg bg g g];have h1:=vC r.id r.id rfl;have j:dn (cP r) (cP r)=dn (ar r.id) (ar r.id):=by simp[cP,dn,U.beq]
 rw[j];unfold ar;rw[h1];simp
theorem Sz:c9.id.length=32:=jE _
def qK:Nat->List (ag)->List (Nat × U)
 | _,[]=>[]
 | k,e::r=>(k,.ah e) ::qK (k+1) r
theorem XM {P Z S X:ag} (h:X.length=Z.length) :ax (P++(Z++S)) P.length X=P++(X++S):=by unfold ax;rw[List.take_left' rfl,h,<-vd,List.drop_left' rfl,List.drop_left' rfl,gM]
theorem Hw {z:Nat} {Z:ag} (j:Z.length=z) :∀ (es:List (ag)) (k:Nat) (P:ag),P.length=k*z->(∀ e∈es,e.length=z)->
  ew (fun i=>some (i*z,z)) (P++cD Z es.length) (qK k es)=some (P++es.flatten)
 | [],k,P,g,_=>by simp[qK,cD,ew]
 | e::r,k,P,g,h=>by
  have m:=h e V;have p:=Hw j r (k+1) (P++e) (by rw[cr,g,m,eu]) fun x o=>h x (by simp[o])
  unfold qK ew;simp only[U.cells];rw[aj ⟨m,by rw[cr,g,dE,cD,cr,j];omega⟩,dE,cD,<-g,XM (by rw[m,j])];rw[<-gM];rw[p,g6,gM]
theorem yB {z:Nat} {Z:ag} (g:Z.length=z) (es:List (ag)) (h:∀ e∈es,e.length=z) :
  ew (fun i=>some (i*z,z)) (cD Z es.length) (qK 0 es)=some es.flatten:=by have:=Hw g es 0 [] V h;simpa using this
theorem Oz:aY 27 [] (.bool true):=by
 apply bc func27 [db 0 4++[[11],[4,11,2,1,0],[5],[6,11]]++db 7 4];have au:=dF;have ay:=IU 1 1#64 none (fun _ h=>(fX h).elim) (ek _) rfl (by decide);have S:=IU 0 2#64 (some [cX.id]) Iw (by decide) (K0 _) (by decide);change ii _ _ _ _ (.ah (dN cX)) at ay;change ii _ _ _ _ (.ah (dN c9)) at S;obtain⟨K,t3,bE,bh⟩:=Yh;obtain⟨a5,bF,bi⟩:=Rs;have aT:=G6 2 1 2;have aU:=G6 1 1 2;have bl:wJ 2 1 2=0:=rfl;have bm:wJ 1 1 2=0:=rfl;have az:=tP (gq 2 1 2) (C6 2 1 2) (some [c9,cX,mJ]) (by
  intro bo m;rw[bL.kE] at m;rcases hZ.1 m with rfl | m
  ·exact yZ
  rcases hZ.1 m with rfl | m
  ·exact sd
  rcases hZ.1 m with rfl | m
  ·exact CD
  cases m) (by decide)
 have aA:=tP (gq 1 1 2) (C6 1 1 2) (some [c9,cX]) (by
  intro bo m;rw[bL.kE] at m;rcases hZ.1 m with rfl | m
  ·exact yZ
  rcases hZ.1 m with rfl | m
  ·exact sd
  cases m) (by decide)
 rw[bL.kE,bh] at az;rw[bL.kE,bi] at aA;rw[bl] at aT;rw[bm] at aU;have R:=ON cX sd 2;change ii _ _ _ _ (.ah (dN mJ)) at R;have Q:=nn cX;have ap:=nn c9;have aP:=nn mJ;have aB:=mK sd;have aC:=mK yZ;have aD:=mK CD;have a4:∀ J:ag,J.length=45->ax (U.i6 0::.int .u8 0::.int .u32 0::.af::.int .u64 0::.int .u8 0::.str [] ::.int .u8 0::.i6 0::.int .u64 0::.str [] ::.int .u32 0::.int .u32 0::bT 32 (.int .u8 0)) 0 J=J:=fun J h=>cI (by rw[h];rfl)
 have p:=bu yY;obtain⟨A,Y⟩:=ao (dN cX);obtain⟨u,ae⟩:=ao (dN c9);obtain⟨I,aJ⟩:=ao (dN mJ);obtain⟨ji,P⟩:=ao (ar cX.id);rw[<-Y] at ay R Q aB;rw[<-ae] at S ap aC;rw[<-aJ] at R aP aD;obtain⟨o,_,_,_,W,_,_,T,_⟩:=aB;obtain⟨j,_,_,_,X,_,_,O,_⟩:=aC;obtain⟨B,_,_,_,_,_,_,aG,_⟩:=aD;rw[<-P] at W p;have ak:ji.take 32=ji:=aL F;have bC:ax (bT 32 (U.int .u8 0)) 0 ji=ji:=cI (by rw[p];rfl);simp;refine av ay rfl ?_;simp[o,a4 _ o,W,p,ak,bC,ew];have bq:aM 32 [am.q 45 A,am.q 32 ji] (.ad 32 1 0 1 1 32) 1 [ji]:=.ad 1 1 1 32 ji _ rfl p rfl (by simp[p]) (aI _) (aI _) (by simp[ak]);obtain⟨bz,q1⟩:=pO bq rfl;have aN:=c4 cX.id;rw[<-P] at aN;have bb:ai (some [cX.id])=.bn 32 [ji]:=by rw[P];rfl
 rw[bb] at S;refine pb checked.mixed ev (args2:=[.i6 0,.int .u64 2,.bn 32 [ji]]) bz V rfl (fun i c aF h1 g=>?_) (av S (by simp[aq,oe,U.aw,aN]) ?_)
 ·rcases i with _ | _ | _ | i
  ·simp at h1 g;subst h1 g;exact .same _
  ·simp at h1 g;subst h1 g;exact .same _
  ·simp at h1 g;subst h1 g;exact q1
  ·simp at h1
 ·simp[j,O,a4 _ j];refine av aT rfl ?_;have H:∀ t:a6,ax [U.i6 0,.af,.af,.i6 0,.af,.i6 0,.af,.i6 0,.bool false] 0 (bp t)=bp t:=fun t=>cI rfl
  have G:∀ t:a6,(bp t).length=9:=fun _=>rfl
  have D:∀ t:a6,(bp t).take 9=bp t:=fun _=>rfl
  simp[G,H,D,j,o,T,O];refine av R (by simp[aq,U.aw,Q]) ?_;have f3:=yB (z:=45) (Z:=U.i6 0::.int .u8 0::.int .u32 0::.af::.int .u64 0::.int .u8 0::.str [] ::.int .u8 0::.i6 0::.int .u64 0::.str [] ::.int .u32 0::.int .u32 0::bT 32 (.int .u8 0)) rfl [u,A,I] (by simp[o,j,B]);simp[qK,-r2] at f3;simp[G,H,D,j,o,T,O,B,aG,-r2,f3];have br:aM 45 [am.q 45 A,am.dead,am.q 45 u,am.q 9 (bp (gq 2 1 2)),am.q 9 [U.i6 0,.af,.af,.i6 0,.af,.i6 0,.af,.i6 0,.bool false],am.q 135 (u++(A++I))] (.ad 45 5 0 3 3 135) 5 [u,A,I]:=
   .ad 5 3 3 135 _ _ rfl (by simp[o,j,B]) rfl (by simp[o,j,B]) (aI _) (aI _) (by rw[aL (by simp[o,j,B])];simp)
  obtain⟨bA,bv⟩:=pO br rfl;have bd:hc (some [c9,cX,mJ])=.bn 45 [u,A,I]:=by rw[Y,ae,aJ];rfl
  rw[bd] at az;have a9:=jp (gq 2 1 2);refine pb checked.mixed ev (args2:=[.ah (bp (gq 2 1 2)),.bn 45 [u,A,I]]) bA V rfl (fun i c aF h1 g=>?_) (av az (by simp[aq,oe,U.aw,Q,ap,aP,a9]) ?_)
  ·rcases i with _ | _ | i
   ·simp at h1 g;subst h1 g;exact .same _
   ·simp at h1 g;subst h1 g;exact bv
   ·simp at h1
  ·simp[G,H,D];refine av aU rfl ?_;have f2:=yB (z:=45) (Z:=U.i6 0::.int .u8 0::.int .u32 0::.af::.int .u64 0::.int .u8 0::.str [] ::.int .u8 0::.i6 0::.int .u64 0::.str [] ::.int .u32 0::.int .u32 0::bT 32 (.int .u8 0)) rfl [u,A] (by simp[o,j]);simp[qK,-r2] at f2;simp[G,H,D,j,o,T,O,B,aG,-r2,f2];have bs:aM 45 [am.q 45 A,am.dead,am.q 45 u,am.q 9 (bp (gq 2 1 2)),am.q 9 (bp K),am.dead,am.q 9 (bp (gq 1 1 2)),am.q 90 (u++A)] (.ad 45 7 0 2 2 90) 7 [u,A]:=
    .ad 7 2 2 90 _ _ rfl (by simp[o,j]) rfl (by simp[o,j]) (aI _) (aI _) (by rw[aL (by simp[o,j])];simp)
   obtain⟨bB,bw⟩:=pO bs rfl;have bf:hc (some [c9,cX])=.bn 45 [u,A]:=by rw[Y,ae];rfl
   rw[bf] at aA;have a8:=jp (gq 1 1 2);refine pb checked.mixed ev (args2:=[.ah (bp (gq 1 1 2)),.bn 45 [u,A]]) bB V rfl (fun i c aF h1 g=>?_) (av aA (by simp[aq,oe,U.aw,Q,ap,a8]) ?_)
   ·rcases i with _ | _ | i
    ·simp at h1 g;subst h1 g;exact .same _
    ·simp at h1 g;subst h1 g;exact bw
    ·simp at h1
   ·have v:=bu (x:=c9.id) (jE _);obtain⟨nf,aj⟩:=ao (ar c9.id);rw[<-aj] at X v;have aH:nf.take 32=nf:=aL F;have aV:=fun w=>zV w
    have aW:=fun w=>xd w p
    have aX:=fun w=>xd w v
    have aZ:=fun w=>xe w p
    have a0:=fun w=>xe w v
    have a2:=xc p;have a3:=xc v;obtain⟨L,C⟩:=ao ([(⟨0,6,c9.id⟩:c7),⟨1,1,cX.id⟩,⟨0,1,c9.id⟩,⟨2,5,cX.id⟩]);obtain⟨M,al⟩:=ao ([(⟨0,6,c9.id⟩:c7),⟨1,1,cX.id⟩,⟨0,8,c9.id⟩]);rw[<-C,<-al];have aO:L.map cP=[U.i6 0::.int .u8 6::nf,U.i6 1::.int .u8 1::ji,U.i6 0::.int .u8 1::nf,U.i6 2::.int .u8 5::ji]:=by rw[C,P,aj];rfl
    have f4:=yB (z:=34) (Z:=U.i6 0::bT 33 (.int .u8 0)) rfl [U.i6 0::.int .u8 6::nf,U.i6 1::.int .u8 1::ji,U.i6 0::.int .u8 1::nf,U.i6 2::.int .u8 5::ji] (by simp[p,v]);have f5:=yB (z:=34) (Z:=U.i6 0::.int .u8 0::bT 32 (.int .u8 0)) rfl [U.i6 0::.int .u8 6::nf,U.i6 1::.int .u8 1::ji,U.i6 0::.int .u8 1::nf,U.i6 2::.int .u8 5::ji] (by simp[p,v]);simp[qK,-r2] at f4 f5;have aQ:∀ r∈L,r.id.length=32:=by
     rw[C];intro r au;simp only[hZ,fX,or_false] at au;rcases au with rfl | rfl | rfl | rfl
     ·exact jE _
     ·exact yY
     ·exact jE _
     ·exact yY
    have aS:=G7 (ia L) (some L) ⟨by rw[lB];exact aQ,by rw[lB,C];decide⟩ ⟨aQ,by rw[C];decide⟩;rw[lB,bL.kE,bY rfl] at aS;have a7:(gb (ia L)).aw=true:=lQ rT _;have bD:=lQ (z:=34) rT (some L);have bj:(bp K)[7]?=some (.i6 3):=by rw[<-t3];rfl
    have bk:∀ h,(bp K)[7]'h=.i6 3:=fun h=>by rw[<-t3];rfl
    simp[G,H,D,W,X,o,j,p,v,ak,aH,-r2,aV,aW,aX,aZ,a0,a2,a3,f4,f5];have bt:aM 34 [am.q 45 A,am.dead,am.q 45 u,am.q 9 (bp (gq 2 1 2)),am.q 9 (bp K),am.dead,am.q 9 (bp (gq 1 1 2)),am.dead,am.q 9 (bp a5),
      am.q 136 (U.i6 0::.int .u8 6::(nf++U.i6 1::.int .u8 1::(ji++U.i6 0::.int .u8 1::(nf++U.i6 2::.int .u8 5::ji))))] (.ad 34 9 0 4 4 136) 9 (L.map cP):=
     .ad 9 4 4 136 _ _ rfl (by simp[p,v]) (by rw[C];rfl) (by rw[aO];simp[p,v]) (aI _) (aI _) (by rw[aL (by simp[p,v]),aO];simp)
    have aR:bO (.ad 34) (gb (ia M)) (.i6 2)=some (.b0 (cP ⟨0,8,c9.id⟩) 0):=by rw[al];rfl
    have bg:bx (.ad 34) (gb (ia M))=some (.i6 3):=by rw[al];rfl
    have aK:cP ⟨0,8,c9.id⟩=.i6 0::.int .u8 8::nf:=by rw[aj];rfl
    have heq:=WP ⟨0,8,c9.id⟩ Sz;rw[aK] at heq;rw[aK] at aR;refine hg aS (.cons (.same _ a7) (.cons (bt.l8 rT (some L) rfl rfl) .nil)) rfl ?_;simp[G,H,D,bj,bk,aR,bg,v,aH,j,X,-r2,aV,aW,aX,aZ,a0,a2,a3,heq];exact aE
open ca aN
theorem La:∀ (l m:List b7) (s:a6) (all:List c7),cw (l++m) s all=if (cw l s all).2.2=0 then cw m (cw l s all).1 (cw l s all).2.1 else cw l s all
 | [],m,s,all=>by
  show cw m s all=if (0:Int)=0 then cw m s all else _
  rw[aj rfl]
 | g::r,m,s,all=>by
  show (if dh s g=0 then cw (r++m) (cl s g).1 (all++(cl s g).2) else (g2,[],dh s g))=_;have e:cw (g::r) s all=if dh s g=0 then cw r (cl s g).1 (all++(cl s g).2) else (g2,[],dh s g):=rfl
  rw[e];by_cases h:dh s g=0
  ·rw[aj h,aj h];exact La r m _ _
  ·rw[ak h,ak h,ak h]
theorem D6:∀ (l:List b7) (s:a6) (all:List c7),(cw l s all).2.2=0->cw l s all=((cw l s []).1,all++(cw l s []).2.1,0)/\(cw l s []).2.2=0
 | [],s,all,h=>⟨by show (s,all,(0:Int))=(s,all++[],0);rw[eT],rfl⟩
 | g::r,s,all,h=>by
  have e:∀ a,cw (g::r) s a=if dh s g=0 then cw r (cl s g).1 (a++(cl s g).2) else (g2,[],dh s g):=fun _=>rfl
  rw[e] at h ⊢;rw[e []];by_cases j:dh s g=0
  ·rw[aj j] at h ⊢;rw[aj j];obtain⟨p,q⟩:=D6 r _ _ h;have m:(cw r (cl s g).1 ([]++(cl s g).2)).2.2=0:=by
    have u:∀ (a b:List c7),(cw r (cl s g).1 a).2.2=(cw r (cl s g).1 b).2.2:=fun a b=>o r _ a b
    rw[u _ []];exact q
   obtain⟨t,v⟩:=D6 r _ _ m;refine⟨?_,m⟩;rw[p,t];simp
  ·rw[ak j] at h;exact bP h j
where
 o:∀ (l:List b7) (s:a6) (a b:List c7),(cw l s a).2.2=(cw l s b).2.2
 | [],_,_,_=>rfl
 | g::r,s,a,b=>by
  have e:∀ a,cw (g::r) s a=if dh s g=0 then cw r (cl s g).1 (a++(cl s g).2) else (g2,[],dh s g):=fun _=>rfl
  rw[e,e];split
  ·exact o r _ _ _
  ·rfl
theorem Uq {s t:a6} (m:dH s) {j:b7} (h:fv j) (g:dh s j=0) (e:fD s t) :fD (cl s j).1 (cl t j).1/\(cl s j).2=(cl t j).2:=by obtain⟨o,p⟩:=JA m h g e;obtain⟨q,u⟩:=JA (uB m e) h (by rw[<-Ju e];exact g) (fD.refl t);exact⟨o.trans q.symm,p.trans u.symm⟩
theorem Lh:∀ (l:List b7),(∀ j∈l,fv j)->∀ (s t:a6) (all:List c7),dH s->fD s t->fD (cw l s all).1 (cw l t all).1/\(cw l s all).2=(cw l t all).2
 | [],_,s,t,all,m,e=>⟨e,rfl⟩
 | j::r,p,s,t,all,m,e=>by
  have o:=p j V;have g:=Ju e j;unfold cw;by_cases h:dh s j=0
  ·rw[aj h,aj (by rw[<-g];exact h)];obtain⟨h1,q⟩:=Uq m o h e;rw[q];exact Lh r (fun x u=>p x (by simp[u])) _ _ _ (pL m o h).1 h1
  ·rw[ak h,ak (by rw[<-g];exact h),g];exact⟨fD.refl _,rfl⟩
theorem Lg:∀ (l:List b7),(∀ j∈l,fv j)->∀ (s:a6) (all:List c7),dH s->hs s->(cw l s all).2.2=0->dH (cw l s all).1/\hs (cw l s all).1/\(cw l s all).1.dj=s.dj
 | [],_,s,all,m,o,_=>⟨m,o,rfl⟩
 | j::r,p,s,all,m,o,h=>by
  have v:=p j V;have e:cw (j::r) s all=if dh s j=0 then cw r (cl s j).1 (all++(cl s j).2) else (g2,[],dh s j):=rfl
  rw[e] at h ⊢;by_cases g:dh s j=0
  ·rw[aj g] at h ⊢;obtain⟨z,i,n,c,_⟩:=pL m v g;obtain⟨q,t,u⟩:=Lg r (fun x w=>p x (by simp[w])) _ _ z i h;exact⟨q,t,by rw[u,c]⟩
  ·rw[ak g] at h;exact bP h g
theorem Lb:∀ (l:List b7) (s:a6) (all:List c7),(cw l s all).2.2≠0->(cw l s all).2.1=[]
 | [],s,all,h=>bP rfl h
 | g::r,s,all,h=>by
  have e:cw (g::r) s all=if dh s g=0 then cw r (cl s g).1 (all++(cl s g).2) else (g2,[],dh s g):=rfl
  rw[e] at h ⊢;by_cases j:dh s g=0
  ·rw[aj j] at h ⊢;exact Lb r _ _ h
  ·rw[ak j]
theorem run_parts {s:a6} (Q:dH s) (z:hs s) {l:List b7} (B:∀ j∈l,fv j) (H:l.length<=60) {k:Nat} (hk:k<=l.length) (m:(eY s l).2.2=0) :
  (eY s (l.take k)).2.2=0/\dH (eY s (l.take k)).1/\hs (eY s (l.take k)).1/\(eY s (l.take k)).1.dj=s.dj ∧
  (eY (eY s (l.take k)).1 (l.drop k)).2.2=0/\fD (eY s l).1 (eY (eY s (l.take k)).1 (l.drop k)).1/\(eY s l).2.1=(eY s (l.take k)).2.1++(eY (eY s (l.take k)).1 (l.drop k)).2.1:=by
 have I:=(iR s).2 z;have w:∀ p:List b7,p.length<=60->eY s p=cw p (dP s) []:=fun p U=>by unfold eY;rw[aj I,ak F]
 have S:∀ j∈l.take k,fv j:=fun j q=>B j (gh q)
 have O:∀ j∈l.drop k,fv j:=fun j q=>B j (tf q)
 have lt:(l.take k).length<=60:=by rw[cO];omega
 have ld:(l.drop k).length<=60:=by rw[iT];omega
 rw[w l H] at m ⊢;rw[w _ lt];have R:=uB Q (pH s);have P:hs (dP s):=xk z (pH s);have g:=La (l.take k) (l.drop k) (dP s) [];rw[iV] at g;have o:(cw (l.take k) (dP s) []).2.2=0:=by
  by_cases h:(cw (l.take k) (dP s) []).2.2=0
  ·exact h
  ·rw[ak h] at g;rw[g] at m;exact m
 rw[aj o] at g;obtain⟨u,t,v⟩:=Lg _ S _ _ R P o;obtain⟨b,K⟩:=ao (cw (l.take k) (dP s) []);rw[<-K] at g o u t v ⊢;have J:eY b.1 (l.drop k)=cw (l.drop k) (dP b.1) []:=by unfold eY;rw[aj ((iR _).2 t),ak F]
 rw[J,g];rw[g] at m;obtain⟨D,G⟩:=D6 _ _ _ m;obtain⟨T,C⟩:=Lh _ O b.1 (dP b.1) [] u (pH b.1);rw[D];refine⟨o,u,t,v,?_,T,?_⟩
 ·rw[<-C];exact G
 ·show b.2.1++(cw (l.drop k) b.1 []).2.1=_;rw[C]
def wO (r:c7) :Bool:=decide (r.cN=9)||(decide (2<=r.cN)&&decide (r.cN<=4))
theorem Lk:∀ (l:List b7),(∀ j∈l,fv j)->∀ (s t:a6) (a b:List c7),dH t->dH s->hs s->s.dj=true->s.bA=t.bA->(cw l t a).2.2=0->
  (cw l s b).2.2=0/\(cw l s b).1.bA=(cw l t a).1.bA/\(cw l s b).1.aD=s.aD/\(cw l s b).1.bN=s.bN/\(cw l s b).1.pl.l=s.pl.l/\dH (cw l s b).1 ∧
  (cw l s b).2.1.length=b.length+l.length/\((∀ r∈b,wO r=true)->∀ r∈(cw l s b).2.1,wO r=true)/\((∀ r∈b,r.id.length=32)->∀ r∈(cw l s b).2.1,r.id.length=32)
 | [],_,s,t,a,b,H,w,D,q,o,h=>⟨rfl,o,rfl,rfl,rfl,w,rfl,fun h=>h,fun h=>h⟩
 | j::r,F,s,t,a,b,H,w,D,q,o,h=>by
  have v:=F j V;have e:∀ s a,cw (j::r) s a=if dh s j=0 then cw r (cl s j).1 (a++(cl s j).2) else (g2,[],dh s j):=fun _ _=>rfl
  rw[e] at h;by_cases m:dh t j=0
  ·rw[aj m] at h;obtain⟨_,C,Q,O⟩:=wM m;have G:dh s j=0:=by
    unfold dh;rw[aj ((iR s).2 D),C,aj rfl,aj (by rw[o];exact Q),ak (by rw[o];exact O)]
   have R:ef s j=if j.cN=0 then 9 else (u j.cN:Int):=by unfold ef;rw[q,aj rfl]
   have z:wO ⟨j.aF,ef s j,j.id⟩=true/\ef s j≠6/\ef s j≠1:=by
    rw[R];rcases Hs C with h | h | h | h<;>rw[h]<;>simp[wO,u]
   have P:cl s j=(eM s,[⟨j.aF,ef s j,j.id⟩]):=by unfold cl;rw[ak z.2.1,ak z.2.2]
   obtain⟨K,I,J,B,_⟩:=pL w v G;obtain⟨T,am,S,al,_⟩:=pL H v m;rw[e,e,aj m,aj G];rw[P] at K I J B ⊢;obtain⟨q1,U,W,X,Y,Z,ae,ag,ai⟩:=Lk r (fun x g=>F x (by simp[g])) (eM s) (cl t j).1 (a++(cl t j).2) (b++[⟨j.aF,ef s j,j.id⟩]) T K I (by rw[B];exact q) (by rw[J,S,o]) h;refine⟨q1,U,W,X,by rw[Y];exact gJ _,Z,by rw[ae,cr,dE,dE,hq];omega,fun p=>ag fun x g=>?_,fun p=>ai fun x g=>?_⟩
   ·rcases fm.1 g with g | g
    ·exact p x g
    ·rw[fB] at g;rw[g];exact z.1
   ·rcases fm.1 g with g | g
    ·exact p x g
    ·rw[fB] at g;rw[g];exact v.id
  ·rw[ak m] at h;exact bP h m
open ca aN
noncomputable def vK (s:a6) (l:List b7) :Bool:=!r7 s&&(decide (fl s=0)&&(!oF l&&decide (l.length<=60)))
theorem PC (s:a6) (q:tw s) (l:bL b7) (G:∀ j∈l.l,qq j) :aY 31 [.ah (bp s),hc l] (.bool (vK s l.l)):=by
 apply bc func31 [];have C:vK s l.l=(!r7 s&&(decide (fl s=0)&&(!oF l.l&&decide (l.l.length<=60)))):=rfl;rw[C];have D:=P9 s q;have H:=Qc l G;have o:=jp s;have B:(hc l).aw=true:=lQ nn l;have v:∀ t:a6,(bp t).length=9:=fun _=>rfl
 have u:∀ t:a6,(bp t).take 9=bp t:=fun _=>rfl
 have p:bx (.ad 45) (hc l)=_:=cd _;simp[v,u];refine av D (by simp[aq,U.aw,o]) ?_;cases h1:r7 s with
 | true=>simp;exact aE
 | false=>
  have z:=Qe s (JC q h1);simp[v,u];refine av z (by simp[aq,U.aw,o]) ?_;by_cases g:fl s=0
  ·simp[g];refine av H (by simp[aq,B]) ?_;cases I:oF l.l with
   | true=>simp;exact aE
   | false=>
    by_cases m:l.l.length<=60
    ·have h:(l.l.length:Int)<=60:=F;simp[p,m,h];exact aT (by simp[g]) rfl
    ·have h:¬ (l.l.length:Int)<=60:=F;simp[p,m,h];exact aE
  ·have w:fl s=8:=(LU s).resolve_left g;simp[w];exact aE
theorem PB {s:a6} {l:List b7} (t:tw s) (q:∀ j∈l,qq j) (h:vK s l=true) :dH s/\hs s/\(∀ j∈l,fv j)/\l.length<=60:=by unfold vK at h;simp only[bH,s8,bC] at h;obtain⟨h1,m,o,p⟩:=h;exact⟨JC t h1,(iR s).1 m,fun j g=>Ux (q j g) ((S1 o).2 j g),p⟩
open ca aN
structure Ny (L:ae) (J:U) (n p:Nat) (q:U) (k:Nat) (sgZ:aR) (l:ae) :Prop where
 ov:l=L
 fp:sgZ 1=J
 iI:sgZ 2=.i6 n
 v6:sgZ 7=.bool true
 oo:sgZ 8=.ptr 1 0 9
 Ch:sgZ 11=.ptr 2 0 9
 Rw:sgZ 15=q
 Rx:sgZ 19=.ptr p 0 9
 aaO:sgZ 20=.i6 0
 Ry:sgZ 21=.i6 k
theorem PT (s:a6) (bP:tw s) (l:bL b7) (bI:∀ j∈l.l,qq j) (n:Int) :Nr 7 [.ah (bp s),hc l,.i6 n] [] (c:=⟨fun r _=>r=.bool true⟩):=by
 apply cW func7 [db 0 4++[[9],[4,9]]++db 5 4,db 0 4++[[9],[4,9]]++db 5 4,db 0 4++[[9],[4,9]]++db 5 4];have bM:=dF;have cZ:=PC s bP l bI;have aE:=jp s;have bD:(hc l).aw=true:=lQ nn l;have aF:bx (.ad 45) (hc l)=_:=cd _;have o:∀ t:a6,(bp t).length=9:=fun _=>rfl
 have p:∀ t:a6,(bp t).take 9=bp t:=fun _=>rfl
 have H:∀ t:a6,ax [U.i6 0,.af,.af,.i6 0,.af,.i6 0,.af,.i6 0,.bool false] 0 (bp t)=bp t:=fun t=>cI rfl
 simp[o,p];refine av Oz rfl ?_;simp[o,p];refine av cZ (by simp[aq,U.aw,aE,bD]) ?_;cases h1:vK s l.l with
 | false=>simp
 | true=>
  obtain⟨S,bF,I,cE⟩:=PB bP bI h1;by_cases ay:n<0
  ·simp[ay]
  ·by_cases cD:(l.l.length:Int)<n
   ·simp[ay,cD,aF]
   ·obtain⟨k,rfl⟩:∃ k:Nat,n=k:=⟨n.toNat,F⟩
    have hk:k<=l.l.length:=F;have c0:¬ l.l.length<k:=F;have c3:dK (.ad 45) (hc l) none (some (.i6 (k:Int))) none=some (hc (g3 l k)):=EE hk;have bE:dK (.ad 45) (hc l) (some (.i6 (k:Int))) none none=some (hc (lA l k)):=Mf hk;have b1:=tP s S l I F;have aO:=tP s S (g3 l k) (fun j u=>I j (by rw[md] at u;exact gh u)) (by rw[md,cO];omega);rw[md] at aO;have cX:(hc (g3 l k)).aw=true:=lQ nn _;have bB:(hc (lA l k)).aw=true:=lQ nn _;obtain⟨A,Z⟩:=ao (eY s l.l);obtain⟨g,aA⟩:=ao (eY s (l.l.take k));have cF:=(iR s).2 bF;have cR:A.2.2≠0->A.2.1=[]:=fun h=>by
     rw[Z] at h ⊢;unfold eY at h ⊢;rw[aj cF,ak F] at h ⊢;exact Lb _ _ _ h
    have bK:=fun cC=>run_parts S bF I cE hk cC
    rw[<-Z,<-aA] at bK;rw[<-Z] at b1;rw[<-aA] at aO;simp[ay,aF,c0,o,p];refine av b1 (by simp[aq,U.aw,aE,bD]) ?_;simp[o,p,H,c3];refine av aO (by simp[aq,U.aw,aE,cX]) ?_;simp[o,p,H];by_cases O:A.2.2=0
    ·obtain⟨cg,B,a5,dp,au,aN,bg⟩:=bK O;have Q:∀ j∈(lA l k).l,fv j:=fun j u=>I j (by rw[rf] at u;exact tf u)
     have cY:(lA l k).l.length<=60:=by rw[rf,iT];omega
     have aQ:=tP g.1 B (lA l k) Q F;rw[rf] at aQ Q cY;obtain⟨v,aB⟩:=ao (eY g.1 (l.l.drop k));rw[<-aB] at aQ au aN bg;obtain⟨cf,ar⟩:dH A.1/\uA (ia A.2.1):=by rw[Z];exact D7 S I F
     obtain⟨_,a9⟩:dH g.1/\uA (ia g.2.1):=by rw[aA];exact D7 S (fun j u=>I j (gh u)) (by rw[cO];omega)
     obtain⟨co,bd⟩:dH v.1/\uA (ia v.2.1):=by rw[aB];exact D7 B Q F
     have b3:=Qg A.1 v.1 cf co;rw[W7.2 aN] at b3;have bb:=jp g.1;have cp:=jp A.1;have cs:=jp v.1;simp[O,bE,o,p,H];refine av aQ (by simp[aq,U.aw,bb,bB]) ?_;simp[O,cg,au,o,p,H];refine av b3 (by simp[aq,U.aw,cp,cs]) ?_;obtain⟨L,P⟩:=ao ([am.q 9 (bp s),am.q 9 (bp A.1),am.q 9 (bp g.1),am.q 9 (bp v.1),am.q 0 []]);have aG:∀ x:c7,x.id.length=32->(cP x).length=34:=fun x G=>by simp[cP,bu G]
     have dg:aM 34 L (.ad 34 4 0 0 0 0) 4 []:=.ad 4 0 0 0 [] [] (by rw[P];rfl) rfl rfl (fun _ h=>(fX h).elim) (aI _) (aI _) rfl;have dq:L.length=5:=by rw[P];rfl
     have cl:=a9.2;have ct:=bd.2;have a7:=a9.1;have bc:=bd.1;rw[lB] at cl ct a7 bc;obtain⟨de,jt,dl,ca,a3,dm,cb,cc,ce⟩:=iG (by_:=48) (x:=gb (ia g.2.1)) (xs:=g.2.1.map cP) dg (by unfold gb;rw[oj,lB,cx]) (fun e R=>by obtain⟨x,G,rfl⟩:=cy.1 R;exact aG x (a7 x G)) F F (by rw[bM];simp;omega);rw[iD] at a3;have J:bt de=false:=by rw[ce];rfl
     obtain⟨df,jY,z,ch,a4,dn,ci,cj,ck⟩:=iG (by_:=48) (x:=gb (ia v.2.1)) (xs:=v.2.1.map cP) a3 (by unfold gb;rw[oj,lB,cx]) (fun e R=>by obtain⟨x,G,rfl⟩:=cy.1 R;exact aG x (bc x G)) F F (by rw[bM];simp;omega);rw[<-c5,<-bg] at a4;have aK:bt df=false:=by rw[ck,J];rfl
     have dt:4<=jt:=by
      rcases cc with h | ⟨_,h⟩ | h
      ·omega
      ·omega
      ·rw[h] at J;cases J
     have du:4<=jY:=by
      rcases cj with h | ⟨_,h⟩ | h
      ·omega
      ·omega
      ·rw[h] at aK;cases aK
     have bQ:=G7 (ia A.2.1) (some A.2.1) ar ⟨by have:=ar.1;rwa [lB] at this,by have:=ar.2;rwa [lB] at this⟩;rw[lB,bL.kE,bY rfl] at bQ;have cS:(gb (ia A.2.1)).aw=true:=lQ rT _;have aZ:∀ c b,c<4->L[c]?=some b->z[c]?=some b:=fun c b dr cQ=>by
      rw[ci c F (.inr F),cb c F (.inr F)];exact cQ
     have K:z[2]?=some (.q 9 (bp g.1)):=aZ 2 _ F (by rw[P];rfl);have bZ:z[1]?=some (.q 9 (bp A.1)):=aZ 1 _ F (by rw[P];rfl);simp;rw[<-P];simp[ca];refine b2.bq ?_;simp[ch];refine b2.bq ?_;simp;refine hg bQ (.cons (.same _ cS) (.cons (a4.l8 rT (some A.2.1) aK rfl) .nil)) rfl ?_;simp[K,o,p];have a0:∀ T:ae,(z++T)[2]?=some (.q 9 (bp g.1)):=fun T=>by rw[aV (a2 K)];exact K
     have b9:∀ T:ae,(z++T)[1]?=some (.q 9 (bp A.1)):=fun T=>by rw[aV (a2 bZ)];exact bZ
     have cU:=P6 g.1 B;have bv:=(iR g.1).2 a5;have cT:rR g.1=if g.1.dj then 34 else 0:=by unfold rR;rw[aj bv]
     have D:BD g.1=if rR g.1=0 then q9 (dP g.1) else g2:=rfl
     have a8:∀ t:a6,(bp t)[8]?=some (.bool t.dj):=fun _=>rfl
     have cA:∀ (t:a6) (h:8<(bp t).length),(bp t)[8]'h=.bool t.dj:=fun _ _=>rfl
     refine av cU (by simp[aq,U.aw,bb]) ?_;rw[cT] at D ⊢;cases aC:g.1.dj with
     | true=>
      rw[aC] at D;simp only[if_true] at D;rw[ak (by decide)] at D;rw[D];simp[o,p,H,K,a0,a8,cA,aC]
     | false=>
      rw[aC] at D;simp only[jJ,if_false,if_true] at D;rw[D];obtain⟨X,C⟩:=ao (q9 (dP g.1));rw[<-C];have bX:dH X:=by
       rw[C];have:=uB B (pH g.1);exact⟨this.aD,this.pl,this.len⟩
      have bW:hs X:=by
       rw[C];have:=xk a5 (pH g.1);exact⟨this.st,this.pen,this.gQ,this.gZ,this.kB⟩
      have cG:=(iR X).2 bW;have aR:=tP X bX (lA l k) (fun j u=>Q j (by rw[rf] at u;exact u)) (by rw[rf];omega);rw[rf] at aR;have cL:eY X (l.l.drop k)=cw (l.l.drop k) (dP X) []:=by unfold eY;rw[aj cG,ak F]
      have bw:v=cw (l.l.drop k) (dP g.1) []:=by rw[aB];unfold eY;rw[aj bv,ak F]
      have cm:X.dj=true:=by rw[C];rfl
      have aH:=Lk (l.l.drop k) Q (dP X) (dP g.1) [] [] (uB B (pH g.1)) (uB bX (pH X)) (xk bW (pH X)) (by show X.dj=true;exact cm) (by rw[C];rfl) (by rw[<-bw];exact au);rw[<-cL,<-bw] at aH;obtain⟨m,cM⟩:=ao (eY X (l.l.drop k));rw[<-cM] at aH aR;obtain⟨dh,dk,b8,b6,e0,W,di,aU,aT⟩:=aH;have aU:=aU fun _ h=>(fX h).elim
      have aT:=aT fun _ h=>(fX h).elim
      have cK:(dP X).aD=g.1.aD:=by rw[C];rfl
      have cH:(dP X).bN=g.1.bN:=by rw[C];rfl
      have cJ:(dP X).pl.l=g.1.pl.l:=by rw[C];show (dZ (dZ g.1.pl.l).l).l=_;rw[gJ,gJ]
      rw[cK] at b8;rw[cH] at b6;rw[cJ] at e0;have ap:bx (.ad 34) (gb (ia m.2.1))=some (.i6 m.2.1.length):=by unfold gb;rw[cd,lB]
      have cn:=jp X;simp[o,p,H,K,bE];refine av aR (by simp[aq,U.aw,cn,bB]) ?_;have bV:=di;rw[hq,hr] at bV;simp[o,p,H,K,ap,dh];obtain⟨Y,ag⟩:=ao (z++[am.q 9 (bp X),am.q 9 (bp m.1)]);have aW:Y[1]?=some (.q 9 (bp A.1)):=by rw[ag];exact b9 _
      have aX:Y[2]?=some (.q 9 (bp g.1)):=by rw[ag];exact a0 _
      have aY:Y[z.length+1]?=some (.q 9 (bp m.1)):=by rw[ag,et F];simp
      refine bz m.2.1.length (Ny Y (hc l) k (z.length+1) (gb (ia m.2.1))) ?_ ⟨by simp[ag],V,V,V,V,V,V,V,V,V⟩;rintro i dd dw ds ⟨rfl,bh,bl,br,bs,bi,bj,bk,bm,bo⟩;obtain⟨dd,rfl⟩:=ES bh bl br bs bi bj bk bm bo;clear bh bl br bs bi bj bk bm bo;by_cases ai:i<m.2.1.length
      ·obtain⟨x,G,bU⟩:=aP ai;have bG:bO (.ad 34) (gb (ia m.2.1)) (.i6 (i:Int))=some (.b0 (cP x) 0):=by simp[gb,lB,G]
       have bT:=aG x (aT x bU);have J:∀ h:1<(cP x).length,(cP x)[1]'h=.int .u8 x.cN:=fun _=>rfl
       have bR:(cP x)[1]?=some (.int .u8 x.cN):=rfl;have bf:=cq (k:=i) F;have aL:=aU x bU;unfold wO at aL;rw[qb,bH,bC,bC,bC] at aL;have al:(i:Int)<(m.2.1.length:Int):=F;by_cases az:x.cN=9
       ·simp[ap,ai,al,bG,bT,J,bR,az,bf];exact⟨rfl,V,V,V,V,V,V,V,V,V⟩
       ·have dv:=aL.resolve_left az;have c4:¬ x.cN<2:=F;have c6:¬ 4<x.cN:=F;simp[ap,ai,al,bG,bT,J,bR,az,c4,c6,bf];exact⟨rfl,V,V,V,V,V,V,V,V,V⟩
      ·have al:¬ (i:Int)<(m.2.1.length:Int):=F;rw[iT] at bV;have cB:IntKind.i64.wrap ((l.l.length:Int) - (k:Int))=(m.2.1.length:Int):=by rw[IntKind.wrap_i64];omega
       have c9:∀ t:a6,(bp t).take 5=cv t.aD:=fun _=>rfl
       have c8:∀ t:a6,((bp t).drop 5).take 2=bS t.bN t.pl:=fun _=>rfl
       have da:∀ t:a6,(bp t)[7]?=some (.i6 t.bA):=fun _=>rfl
       have dc:∀ (t:a6) (h:7<(bp t).length),(bp t)[7]'h=.i6 t.bA:=fun _ _=>rfl
       have b5:=KA m.1.aD g.1.aD W.aD.aS.w B.aD.aS.w W.aD.aJ B.aD.aJ (by have:=W.aD.no;omega);rw[q6.2 (by rw[b8])] at b5;have b4:=Ky m.1.bN g.1.bN m.1.pl g.1.pl W.pl B.pl (by have:=W.len;omega);rw[Ls.2 (by rw[e0]),bY b6] at b4;have cu:=k7 m.1.aD;have qz:=k7 g.1.aD;have cz:aq (bS m.1.bN m.1.pl)=true:=by simp[bS,aq,U.aw,hx]
       have cr:aq (bS g.1.bN g.1.pl)=true:=by simp[bS,aq,U.aw,hx]
       have c2:m.1.bA=A.1.bA:=by rw[dk];exact aN.bA.symm
       simp[ap,ai,al,aF,cB,aW,aX,aY,o,c9];refine av b5 (by simp[aq,U.aw,cu,qz]) ?_;simp[aW,aX,aY,o,c8];refine av b4 (by simp[aq,U.aw,cz,cr]) ?_;simp[aW,aX,aY,o,da,dc,c2]
    ·have R:=cR O;have c1:bx (.ad 34) (gb (ia A.2.1))=some (.i6 0):=by rw[R];rfl
     simp[O,c1]
end Op
end Go.bh
